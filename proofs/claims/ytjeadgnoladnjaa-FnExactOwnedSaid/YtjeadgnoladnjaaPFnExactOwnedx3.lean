-- PRINTED BY print.sh 35421559b90ae4d0a3588c463048766b98c2df88dd9212a6774a882060cdf62d: not written by this session
import Derived.Test.YtjeadgnoladnjaaPFnExactOwnedx0
import Derived.Test.YtjeadgnoladnjaaPFnExactOwnedx1
import Derived.Test.YtjeadgnoladnjaaPFnExactOwnedx2
namespace Go.Proofs.Ytjeadgnoladnjaa.PFnExactOwned
open Go.RowKit Go.Proofs.YtjeadgnoladnjaaW.PrintWords Go.Proofs.YtjeadgnoladnjaaW.PrintLast Go.Proofs.YtjeadgnoladnjaaW.PrintMore
attribute [local go_sem] max2_int min2_int max_two min_two max_three min_three max_four min_four   -- for this text's walks alone
set_option linter.unusedVariables false
set_option linter.unusedSimpArgs false

/-! ### impl_isIn: function 32 -/
def impl_isIn.f (a0 : Int) (a1 : Int) (a2 : Int) : Option (Bool) := if a1 ≤ a0 then (some (decide (a0 ≤ a2))) else (some false)
set_option maxHeartbeats 8000000 in
set_option maxRecDepth 100000 in
theorem impl_isIn.calls (a0 : Int) (a1 : Int) (a2 : Int) (r : Bool) (w : World) (h : impl_isIn.f a0 a1 a2 = some r) :
    Calls Try.prog 32 #[.int .i64 a0, .int .i64 a1, .int .i64 a2] w fun e w' => e = .returned (.bool r) ∧ Drawn0 w w' := by
  have H : (if a1 ≤ a0 then (some (decide (a0 ≤ a2))) else (some false)) = some r := h
  clear h
  by_cases c4 : a1 ≤ a0
  · rw [if_pos c4] at H
    have c4b0 : decide (a1 ≤ a0) = true := decide_eq_true c4
    clear c4
    obtain rfl := Option.some.inj H
    go_enter Try.func32, Try.ntmps32
    go_wp2
    go_ret
    exact ⟨by first | rfl | (simp; done) | (simp [*]; done), by repeat (first | exact Drawn0.refl _ | apply Drawn0.step)⟩
  · rw [if_neg c4] at H
    have c4b0 : decide (a1 ≤ a0) = false := decide_eq_false c4
    clear c4
    obtain rfl := Option.some.inj H
    go_enter Try.func32, Try.ntmps32
    go_wp2
    go_ret
    exact ⟨by first | rfl | (simp; done) | (simp [*]; done), by repeat (first | exact Drawn0.refl _ | apply Drawn0.step)⟩

/-! ### impl_Owned: function 22 -/
mutual
def impl_Owned.l0 : Nat → Bool → List (S55) → Int → Int → Int → Int → Int → Int → Int → Int → Int → Int → Int → Option (Bool)
  | 0, _, _, _, _, _, _, _, _, _, _, _, _, _ => none
  | k + 1, x4, x8, x9, x10, x128000, x128001, x128002, x128003, x128004, x128005, x128006, x128007, x128008 => if x10 < x9 then (if 0 ≤ x10 then (if x10 < (x8.length : Int) then ((impl_isIn.f ((rd_T55 x8 x10).f0) 1 8).bind fun t130 => (if t130 = true then (if ((rd_T55 x8 x10).f2) = ((rd_T55 x8 x10).f3) then (impl_Owned.j1 k x4 x8 x9 x10 (((rd_T55 x8 x10).f1) != ((rd_T55 x8 x10).f4)) x128000 x128001 x128002 x128003 x128004 x128005 x128006 x128007 x128008 ((rd_T55 x8 x10).f0) ((rd_T55 x8 x10).f1) ((rd_T55 x8 x10).f2) ((rd_T55 x8 x10).f3) ((rd_T55 x8 x10).f4) ((rd_T55 x8 x10).f5) ((rd_T55 x8 x10).f6) ((rd_T55 x8 x10).f7) ((rd_T55 x8 x10).f8)) else (impl_Owned.j1 k x4 x8 x9 x10 true x128000 x128001 x128002 x128003 x128004 x128005 x128006 x128007 x128008 ((rd_T55 x8 x10).f0) ((rd_T55 x8 x10).f1) ((rd_T55 x8 x10).f2) ((rd_T55 x8 x10).f3) ((rd_T55 x8 x10).f4) ((rd_T55 x8 x10).f5) ((rd_T55 x8 x10).f6) ((rd_T55 x8 x10).f7) ((rd_T55 x8 x10).f8))) else (impl_Owned.l0 k x4 x8 x9 (wrap64 (x10 + 1)) x128000 x128001 x128002 x128003 x128004 x128005 x128006 x128007 x128008))) else (none)) else (none)) else (some true)
def impl_Owned.j1 : Nat → Bool → List (S55) → Int → Int → Bool → Int → Int → Int → Int → Int → Int → Int → Int → Int → Int → Int → Int → Int → Int → Int → Int → Int → Int → Option (Bool)
  | 0, _, _, _, _, _, _, _, _, _, _, _, _, _, _, _, _, _, _, _, _, _, _, _ => none
  | k + 1, x4, x8, x9, x10, x29, x128000, x128001, x128002, x128003, x128004, x128005, x128006, x128007, x128008, x130000, x130001, x130002, x130003, x130004, x130005, x130006, x130007, x130008 => if x29 = true then (some false) else (if x130000 = 8 then (if x130008 = x130002 then (if x4 = true then (if x130008 ≤ x128008 then (some false) else (impl_Owned.l0 k true x8 x9 (wrap64 (x10 + 1)) x130000 x130001 x130002 x130003 x130004 x130005 x130006 x130007 x130008)) else (impl_Owned.l0 k true x8 x9 (wrap64 (x10 + 1)) x130000 x130001 x130002 x130003 x130004 x130005 x130006 x130007 x130008)) else (some false)) else (if x4 = true then (if x128001 = x130001 then (if x128008 = x130002 then (impl_Owned.l0 k x4 x8 x9 (wrap64 (x10 + 1)) x128000 x128001 x128002 x128003 x128004 x128005 x128006 x128007 x128008) else (some false)) else (some false)) else (some false)))
end
def impl_Owned.f (k : Nat) (l0 : List (S55)) : Option (Bool) := impl_Owned.l0 k false l0 (l0.length : Int) 0 0 0 0 0 0 0 0 0 0
theorem impl_Owned.mono_l : ∀ k, (∀ y0 y1 y2 y3 y4 y5 y6 y7 y8 y9 y10 y11 y12, LeO (impl_Owned.l0 k y0 y1 y2 y3 y4 y5 y6 y7 y8 y9 y10 y11 y12) (impl_Owned.l0 (k + 1) y0 y1 y2 y3 y4 y5 y6 y7 y8 y9 y10 y11 y12)) ∧ (∀ y0 y1 y2 y3 y4 y5 y6 y7 y8 y9 y10 y11 y12 y13 y14 y15 y16 y17 y18 y19 y20 y21 y22, LeO (impl_Owned.j1 k y0 y1 y2 y3 y4 y5 y6 y7 y8 y9 y10 y11 y12 y13 y14 y15 y16 y17 y18 y19 y20 y21 y22) (impl_Owned.j1 (k + 1) y0 y1 y2 y3 y4 y5 y6 y7 y8 y9 y10 y11 y12 y13 y14 y15 y16 y17 y18 y19 y20 y21 y22))
  | 0 => ⟨fun _ _ _ _ _ _ _ _ _ _ _ _ _ r h => by simp [impl_Owned.l0] at h, fun _ _ _ _ _ _ _ _ _ _ _ _ _ _ _ _ _ _ _ _ _ _ _ r h => by simp [impl_Owned.j1] at h⟩
  | k + 1 => by
    obtain ⟨ih0, ih1⟩ := impl_Owned.mono_l k
    refine ⟨?_, ?_⟩
    · intro y0 y1 y2 y3 y4 y5 y6 y7 y8 y9 y10 y11 y12
      unfold impl_Owned.l0
      repeat' first
      | (with_reducible exact ih0 _ _ _ _ _ _ _ _ _ _ _ _ _)
      | (with_reducible exact ih1 _ _ _ _ _ _ _ _ _ _ _ _ _ _ _ _ _ _ _ _ _ _ _)
      | (with_reducible exact LeO.refl _)
      | (with_reducible exact LeO.none _)
      | (with_reducible refine LeO.ite ?_ ?_)
      | (with_reducible refine LeO.bind ?_ (fun _ => ?_))
      | exact ih0 _ _ _ _ _ _ _ _ _ _ _ _ _
      | exact ih1 _ _ _ _ _ _ _ _ _ _ _ _ _ _ _ _ _ _ _ _ _ _ _
      | exact LeO.none _
      | refine LeO.ite ?_ ?_
      | refine LeO.bind ?_ (fun _ => ?_)
    · intro y0 y1 y2 y3 y4 y5 y6 y7 y8 y9 y10 y11 y12 y13 y14 y15 y16 y17 y18 y19 y20 y21 y22
      unfold impl_Owned.j1
      repeat' first
      | (with_reducible exact ih0 _ _ _ _ _ _ _ _ _ _ _ _ _)
      | (with_reducible exact ih1 _ _ _ _ _ _ _ _ _ _ _ _ _ _ _ _ _ _ _ _ _ _ _)
      | (with_reducible exact LeO.refl _)
      | (with_reducible exact LeO.none _)
      | (with_reducible refine LeO.ite ?_ ?_)
      | (with_reducible refine LeO.bind ?_ (fun _ => ?_))
      | exact ih0 _ _ _ _ _ _ _ _ _ _ _ _ _
      | exact ih1 _ _ _ _ _ _ _ _ _ _ _ _ _ _ _ _ _ _ _ _ _ _ _
      | exact LeO.none _
      | refine LeO.ite ?_ ?_
      | refine LeO.bind ?_ (fun _ => ?_)
theorem impl_Owned.mono : ∀ a0 k, LeO (impl_Owned.f k a0) (impl_Owned.f (k + 1) a0) := by
  intro a0 k
  obtain ⟨ih0, ih1⟩ := impl_Owned.mono_l k
  unfold impl_Owned.f
  repeat' first
      | (with_reducible exact ih0 _ _ _ _ _ _ _ _ _ _ _ _ _)
      | (with_reducible exact ih1 _ _ _ _ _ _ _ _ _ _ _ _ _ _ _ _ _ _ _ _ _ _ _)
      | (with_reducible exact LeO.refl _)
      | (with_reducible exact LeO.none _)
      | (with_reducible refine LeO.ite ?_ ?_)
      | (with_reducible refine LeO.bind ?_ (fun _ => ?_))
      | exact ih0 _ _ _ _ _ _ _ _ _ _ _ _ _
      | exact ih1 _ _ _ _ _ _ _ _ _ _ _ _ _ _ _ _ _ _ _ _ _ _ _
      | exact LeO.none _
      | refine LeO.ite ?_ ?_
      | refine LeO.bind ?_ (fun _ => ?_)
set_option maxHeartbeats 8000000 in
set_option maxRecDepth 100000 in
theorem impl_Owned.calls (k : Nat) (A0 : Option Addr) (c0 : Nat) (l0 : List (S55)) (r : Bool) (w : World) (hr0 : Kd.C k55 w A0 l0.length l0) (hc0 : l0.length ≤ c0) (h : impl_Owned.f k l0 = some r) :
    Calls Try.prog 22 #[.slice A0 l0.length c0] w fun e w' => e = .returned (.bool r) ∧ Below w.heap.size w w' := by
  have hu55 := Try.underlying55
  have HR0 := Aside0.mk hr0
  have HC0 := Aside0.mk hc0
  clear hr0 hc0
  have HB := Aside0.mk (Below.refl w.heap.size w)
  have H : (impl_Owned.l0 k false l0 (l0.length : Int) 0 0 0 0 0 0 0 0 0 0) = some r := h
  clear h
  have H' := Aside0.mk H
  clear H
  go_enter Try.func22, Try.ntmps22
  go_wp2_with (first | ((with_reducible refine gate_dst (N := 3) rfl ?_); refine box_event ?hg (N := 3) ?hd (cs := #[.int .i64 0, .int .i64 0, .int .i64 0, .int .i64 0, .int .i64 0, .int .i64 0, .int .i64 0, .int .i64 0, .int .i64 0]) (t := 55) ?hr ?_; (case hd => rfl); (case hg => rfl); (case hr => first | (go_simp; done) | (go_simp; rfl)); intro gb127 hg w2 hbox hb; have n0_ := Aside0.mk (below_step (by repeat (first | (with_reducible first | exact HB.out | apply below_alloc | apply pw_below_drewN | apply below_drew1) | exact HB.out)) hb); have n1_ := Aside0.mk (hbox); have n2_ := Aside0.mk ((by rw [hg]; exact (below_size (by repeat (first | (with_reducible first | exact HB.out | apply below_alloc | apply pw_below_drewN | apply below_drew1) | exact HB.out))) : w.heap.size ≤ gb127)); have n3_ := Aside0.mk ((by rw [hg]; exact (below_size (by repeat (first | (with_reducible first | exact HB.out | apply below_alloc | apply pw_below_drewN | apply below_drew1) | exact HB.out))) : w.heap.size ≤ gb127)); clear HB; have HB := n0_; have BK127 := n1_; have GW127 := n2_; have GE127 := n3_; clear n0_ n1_ n2_ n3_; clear hb hbox hg; have hcz3_0 : w2.cell? ⟨gb127, 0, none⟩ = some (.int .i64 0) := (blk_cell BK127.out 0).trans rfl; have hcz3_1 : w2.cell? ⟨gb127, 1, none⟩ = some (.int .i64 0) := (blk_cell BK127.out 1).trans rfl; have hcz3_2 : w2.cell? ⟨gb127, 2, none⟩ = some (.int .i64 0) := (blk_cell BK127.out 2).trans rfl; have hcz3_3 : w2.cell? ⟨gb127, 3, none⟩ = some (.int .i64 0) := (blk_cell BK127.out 3).trans rfl; have hcz3_4 : w2.cell? ⟨gb127, 4, none⟩ = some (.int .i64 0) := (blk_cell BK127.out 4).trans rfl; have hcz3_5 : w2.cell? ⟨gb127, 5, none⟩ = some (.int .i64 0) := (blk_cell BK127.out 5).trans rfl; have hcz3_6 : w2.cell? ⟨gb127, 6, none⟩ = some (.int .i64 0) := (blk_cell BK127.out 6).trans rfl; have hcz3_7 : w2.cell? ⟨gb127, 7, none⟩ = some (.int .i64 0) := (blk_cell BK127.out 7).trans rfl; have hcz3_8 : w2.cell? ⟨gb127, 8, none⟩ = some (.int .i64 0) := (blk_cell BK127.out 8).trans rfl; have hfz3_0 := blk_frozen BK127.out 0; have hfz3_1 := blk_frozen BK127.out 1; have hfz3_2 := blk_frozen BK127.out 2; have hfz3_3 := blk_frozen BK127.out 3; have hfz3_4 := blk_frozen BK127.out 4; have hfz3_5 := blk_frozen BK127.out 5; have hfz3_6 := blk_frozen BK127.out 6; have hfz3_7 := blk_frozen BK127.out 7; have hfz3_8 := blk_frozen BK127.out 8))
  go_loopg [4, 10] k (fun kq v4 v10 w' => ∃ (x4_1 : Bool) (x10_1 : Int) (x128000_1 : Int) (x128001_1 : Int) (x128002_1 : Int) (x128003_1 : Int) (x128004_1 : Int) (x128005_1 : Int) (x128006_1 : Int) (x128007_1 : Int) (x128008_1 : Int), v4 = .bool x4_1 ∧ v10 = .int .i64 x10_1 ∧ Aside0 (impl_Owned.l0 kq x4_1 l0 (l0.length : Int) x10_1 x128000_1 x128001_1 x128002_1 x128003_1 x128004_1 x128005_1 x128006_1 x128007_1 x128008_1 = some r) ∧ Aside0 (kq ≤ k) ∧ Aside0 (w'.heap[gb127]? = some (.cells #[.int .i64 x128000_1, .int .i64 x128001_1, .int .i64 x128002_1, .int .i64 x128003_1, .int .i64 x128004_1, .int .i64 x128005_1, .int .i64 x128006_1, .int .i64 x128007_1, .int .i64 x128008_1] 55 (0, 0))) ∧ Aside0 (Below w.heap.size w w'))
  case atStart => exact ⟨(false), (0), (0), (0), (0), (0), (0), (0), (0), (0), (0), (by first | rfl | (simp; done) | (simp [*]; done)), (by first | rfl | (simp; done) | (simp [*]; done)), H', ⟨Nat.le_refl _⟩, ⟨by (with_reducible repeat (first | refine blk_drewN ?_ _ | refine blk_drew ?_ | refine blk_alloc ?_ _)); refine blk_put (cs := #[.int .i64 0, .int .i64 0, .int .i64 0, .int .i64 0, .int .i64 0, .int .i64 0, .int .i64 0, .int .i64 0, .int .i64 0]) ?_ 8 _ rfl; (with_reducible repeat (first | refine blk_drewN ?_ _ | refine blk_drew ?_ | refine blk_alloc ?_ _)); refine blk_put (cs := #[.int .i64 0, .int .i64 0, .int .i64 0, .int .i64 0, .int .i64 0, .int .i64 0, .int .i64 0, .int .i64 0, .int .i64 0]) ?_ 7 _ rfl; (with_reducible repeat (first | refine blk_drewN ?_ _ | refine blk_drew ?_ | refine blk_alloc ?_ _)); refine blk_put (cs := #[.int .i64 0, .int .i64 0, .int .i64 0, .int .i64 0, .int .i64 0, .int .i64 0, .int .i64 0, .int .i64 0, .int .i64 0]) ?_ 6 _ rfl; (with_reducible repeat (first | refine blk_drewN ?_ _ | refine blk_drew ?_ | refine blk_alloc ?_ _)); refine blk_put (cs := #[.int .i64 0, .int .i64 0, .int .i64 0, .int .i64 0, .int .i64 0, .int .i64 0, .int .i64 0, .int .i64 0, .int .i64 0]) ?_ 5 _ rfl; (with_reducible repeat (first | refine blk_drewN ?_ _ | refine blk_drew ?_ | refine blk_alloc ?_ _)); refine blk_put (cs := #[.int .i64 0, .int .i64 0, .int .i64 0, .int .i64 0, .int .i64 0, .int .i64 0, .int .i64 0, .int .i64 0, .int .i64 0]) ?_ 4 _ rfl; (with_reducible repeat (first | refine blk_drewN ?_ _ | refine blk_drew ?_ | refine blk_alloc ?_ _)); refine blk_put (cs := #[.int .i64 0, .int .i64 0, .int .i64 0, .int .i64 0, .int .i64 0, .int .i64 0, .int .i64 0, .int .i64 0, .int .i64 0]) ?_ 3 _ rfl; (with_reducible repeat (first | refine blk_drewN ?_ _ | refine blk_drew ?_ | refine blk_alloc ?_ _)); refine blk_put (cs := #[.int .i64 0, .int .i64 0, .int .i64 0, .int .i64 0, .int .i64 0, .int .i64 0, .int .i64 0, .int .i64 0, .int .i64 0]) ?_ 2 _ rfl; (with_reducible repeat (first | refine blk_drewN ?_ _ | refine blk_drew ?_ | refine blk_alloc ?_ _)); refine blk_put (cs := #[.int .i64 0, .int .i64 0, .int .i64 0, .int .i64 0, .int .i64 0, .int .i64 0, .int .i64 0, .int .i64 0, .int .i64 0]) ?_ 1 _ rfl; (with_reducible repeat (first | refine blk_drewN ?_ _ | refine blk_drew ?_ | refine blk_alloc ?_ _)); refine blk_put (cs := #[.int .i64 0, .int .i64 0, .int .i64 0, .int .i64 0, .int .i64 0, .int .i64 0, .int .i64 0, .int .i64 0, .int .i64 0]) ?_ 0 _ rfl; (with_reducible repeat (first | refine blk_drewN ?_ _ | refine blk_drew ?_ | refine blk_alloc ?_ _)); exact BK127.out⟩, ⟨by repeat (first | (with_reducible first | exact HB.out | apply below_alloc | apply pw_below_drewN | apply below_drew1 | refine below_set ?_ GE127.out) | exact HB.out)⟩⟩
  case round =>
    clear H'
    try clear c2
    try clear p2
    try clear hcz3_0
    try clear hcz3_1
    try clear hcz3_2
    try clear hcz3_3
    try clear hcz3_4
    try clear hcz3_5
    try clear hcz3_6
    try clear hcz3_7
    try clear hcz3_8
    try clear hfz3_0
    try clear hfz3_1
    try clear hfz3_2
    try clear hfz3_3
    try clear hfz3_4
    try clear hfz3_5
    try clear hfz3_6
    try clear hfz3_7
    try clear hfz3_8
    obtain ⟨x4_1, x10_1, x128000_1, x128001_1, x128002_1, x128003_1, x128004_1, x128005_1, x128006_1, x128007_1, x128008_1, rfl, rfl, HA, HK1, BK127, HB⟩ := hrel
    cases gk with
    | zero => exact absurd HA.out (by simp [impl_Owned.l0])
    | succ k1 =>
      have H := HA.out
      clear HA
      simp only [impl_Owned.l0] at H
      by_cases c4 : x10_1 < (l0.length : Int)
      · rw [if_pos c4] at H
        have c4b0 : decide (x10_1 < (l0.length : Int)) = true := decide_eq_true c4
        clear c4
        by_cases c5 : 0 ≤ x10_1
        · rw [if_pos c5] at H
          have c5b0 : decide (0 ≤ x10_1) = true := decide_eq_true c5
          clear c5
          by_cases c6 : x10_1 < (l0.length : Int)
          · rw [if_pos c6] at H
            have c6b0 : decide (x10_1 < (l0.length : Int)) = true := decide_eq_true c6
            clear c6
            replace H := Option.bind_eq_some_iff.mp H
            obtain ⟨t130, A70, H⟩ := H
            replace H : (if t130 = true then (if ((rd_T55 l0 x10_1).f2) = ((rd_T55 l0 x10_1).f3) then (impl_Owned.j1 k1 x4_1 l0 (l0.length : Int) x10_1 (((rd_T55 l0 x10_1).f1) != ((rd_T55 l0 x10_1).f4)) x128000_1 x128001_1 x128002_1 x128003_1 x128004_1 x128005_1 x128006_1 x128007_1 x128008_1 ((rd_T55 l0 x10_1).f0) ((rd_T55 l0 x10_1).f1) ((rd_T55 l0 x10_1).f2) ((rd_T55 l0 x10_1).f3) ((rd_T55 l0 x10_1).f4) ((rd_T55 l0 x10_1).f5) ((rd_T55 l0 x10_1).f6) ((rd_T55 l0 x10_1).f7) ((rd_T55 l0 x10_1).f8)) else (impl_Owned.j1 k1 x4_1 l0 (l0.length : Int) x10_1 true x128000_1 x128001_1 x128002_1 x128003_1 x128004_1 x128005_1 x128006_1 x128007_1 x128008_1 ((rd_T55 l0 x10_1).f0) ((rd_T55 l0 x10_1).f1) ((rd_T55 l0 x10_1).f2) ((rd_T55 l0 x10_1).f3) ((rd_T55 l0 x10_1).f4) ((rd_T55 l0 x10_1).f5) ((rd_T55 l0 x10_1).f6) ((rd_T55 l0 x10_1).f7) ((rd_T55 l0 x10_1).f8))) else (impl_Owned.l0 k1 x4_1 l0 (l0.length : Int) (wrap64 (x10_1 + 1)) x128000_1 x128001_1 x128002_1 x128003_1 x128004_1 x128005_1 x128006_1 x128007_1 x128008_1)) = some r := H
            have A7 := Aside0.mk A70
            clear A70
            by_cases c8 : t130 = true
            · subst c8
              have H1 : (if ((rd_T55 l0 x10_1).f2) = ((rd_T55 l0 x10_1).f3) then (impl_Owned.j1 k1 x4_1 l0 (l0.length : Int) x10_1 (((rd_T55 l0 x10_1).f1) != ((rd_T55 l0 x10_1).f4)) x128000_1 x128001_1 x128002_1 x128003_1 x128004_1 x128005_1 x128006_1 x128007_1 x128008_1 ((rd_T55 l0 x10_1).f0) ((rd_T55 l0 x10_1).f1) ((rd_T55 l0 x10_1).f2) ((rd_T55 l0 x10_1).f3) ((rd_T55 l0 x10_1).f4) ((rd_T55 l0 x10_1).f5) ((rd_T55 l0 x10_1).f6) ((rd_T55 l0 x10_1).f7) ((rd_T55 l0 x10_1).f8)) else (impl_Owned.j1 k1 x4_1 l0 (l0.length : Int) x10_1 true x128000_1 x128001_1 x128002_1 x128003_1 x128004_1 x128005_1 x128006_1 x128007_1 x128008_1 ((rd_T55 l0 x10_1).f0) ((rd_T55 l0 x10_1).f1) ((rd_T55 l0 x10_1).f2) ((rd_T55 l0 x10_1).f3) ((rd_T55 l0 x10_1).f4) ((rd_T55 l0 x10_1).f5) ((rd_T55 l0 x10_1).f6) ((rd_T55 l0 x10_1).f7) ((rd_T55 l0 x10_1).f8))) = some r := by rw [if_pos rfl] at H; exact H
              clear H
              have H := H1
              clear H1
              have HC9 := Aside0.mk H
              clear H
              have p128 : 0 ≤ (x10_1 : Int) := of_decide_eq_true (by first | (with_reducible assumption) | assumption)
              have q128 : x10_1 < (l0.length : Int) := of_decide_eq_true (by first | (with_reducible assumption) | assumption)
              obtain ⟨ad128, e128, hx128_0, hx128_1, hx128_2, hx128_3, hx128_4, hx128_5, hx128_6, hx128_7, hx128_8⟩ := at_T55 HR0.out x10_1 p128 q128
              cases e128
              replace hx128_0 := (HB.out.cell (World.block_lt_of_cell? w _ hx128_0)).trans hx128_0
              replace hx128_1 := (HB.out.cell (World.block_lt_of_cell? w _ hx128_1)).trans hx128_1
              replace hx128_2 := (HB.out.cell (World.block_lt_of_cell? w _ hx128_2)).trans hx128_2
              replace hx128_3 := (HB.out.cell (World.block_lt_of_cell? w _ hx128_3)).trans hx128_3
              replace hx128_4 := (HB.out.cell (World.block_lt_of_cell? w _ hx128_4)).trans hx128_4
              replace hx128_5 := (HB.out.cell (World.block_lt_of_cell? w _ hx128_5)).trans hx128_5
              replace hx128_6 := (HB.out.cell (World.block_lt_of_cell? w _ hx128_6)).trans hx128_6
              replace hx128_7 := (HB.out.cell (World.block_lt_of_cell? w _ hx128_7)).trans hx128_7
              replace hx128_8 := (HB.out.cell (World.block_lt_of_cell? w _ hx128_8)).trans hx128_8
              replace p128 := eq_true p128
              replace q128 := eq_true q128
              go_upto_region 6 with (first | ((with_reducible refine gate_dst (N := 6) rfl ?_); refine box_event ?hg (N := 6) ?hd (cs := #[.int .i64 0, .int .i64 0, .int .i64 0, .int .i64 0, .int .i64 0, .int .i64 0, .int .i64 0, .int .i64 0, .int .i64 0]) (t := 55) ?hr ?_; (case hd => rfl); (case hg => rfl); (case hr => first | (go_simp; done) | (go_simp; rfl)); intro gb129 hg w10 hbox hb; have n0_ := Aside0.mk (blk_below (g := gb127) (o := .cells #[.int .i64 x128000_1, .int .i64 x128001_1, .int .i64 x128002_1, .int .i64 x128003_1, .int .i64 x128004_1, .int .i64 x128005_1, .int .i64 x128006_1, .int .i64 x128007_1, .int .i64 x128008_1] 55 (0, 0)) (by (with_reducible repeat (first | refine blk_drewN ?_ _ | refine blk_drew ?_ | refine blk_alloc ?_ _)); exact BK127.out) hb); have n1_ := Aside0.mk (below_step (by repeat (first | (with_reducible first | exact HB.out | apply below_alloc | apply pw_below_drewN | apply below_drew1 | refine below_set ?_ GE127.out) | exact HB.out)) hb); have n2_ := Aside0.mk (hbox); have n3_ := Aside0.mk ((by rw [hg]; exact (below_size (by repeat (first | (with_reducible first | exact HB.out | apply below_alloc | apply pw_below_drewN | apply below_drew1 | refine below_set ?_ GE127.out) | exact HB.out))) : w.heap.size ≤ gb129)); have n4_ := Aside0.mk ((by rw [hg]; exact (below_size (by repeat (first | (with_reducible first | exact HB.out | apply below_alloc | apply pw_below_drewN | apply below_drew1 | refine below_set ?_ GE127.out) | exact HB.out))) : w.heap.size ≤ gb129)); have n5_ := Aside0.mk ((by rw [hg]; exact Nat.ne_of_lt (blk_lt (g := gb127) (o := .cells #[.int .i64 x128000_1, .int .i64 x128001_1, .int .i64 x128002_1, .int .i64 x128003_1, .int .i64 x128004_1, .int .i64 x128005_1, .int .i64 x128006_1, .int .i64 x128007_1, .int .i64 x128008_1] 55 (0, 0)) (by (with_reducible repeat (first | refine blk_drewN ?_ _ | refine blk_drew ?_ | refine blk_alloc ?_ _)); exact BK127.out)) : gb127 ≠ gb129)); have n6_ := Aside0.mk ((by rw [hg]; exact Nat.ne_of_gt (blk_lt (g := gb127) (o := .cells #[.int .i64 x128000_1, .int .i64 x128001_1, .int .i64 x128002_1, .int .i64 x128003_1, .int .i64 x128004_1, .int .i64 x128005_1, .int .i64 x128006_1, .int .i64 x128007_1, .int .i64 x128008_1] 55 (0, 0)) (by (with_reducible repeat (first | refine blk_drewN ?_ _ | refine blk_drew ?_ | refine blk_alloc ?_ _)); exact BK127.out)) : gb129 ≠ gb127)); clear BK127; clear HB; have BK127 := n0_; have HB := n1_; have BK129 := n2_; have GW129 := n3_; have GE129 := n4_; have NB127_129 := n5_; have NB129_127 := n6_; clear n0_ n1_ n2_ n3_ n4_ n5_ n6_; clear hb hbox hg; have hnb11 := NB129_127.out; have hnc11 := NB127_129.out; have hcz12_0 : w10.cell? ⟨gb129, 0, none⟩ = some (.int .i64 0) := (blk_cell BK129.out 0).trans rfl; have hcz12_1 : w10.cell? ⟨gb129, 1, none⟩ = some (.int .i64 0) := (blk_cell BK129.out 1).trans rfl; have hcz12_2 : w10.cell? ⟨gb129, 2, none⟩ = some (.int .i64 0) := (blk_cell BK129.out 2).trans rfl; have hcz12_3 : w10.cell? ⟨gb129, 3, none⟩ = some (.int .i64 0) := (blk_cell BK129.out 3).trans rfl; have hcz12_4 : w10.cell? ⟨gb129, 4, none⟩ = some (.int .i64 0) := (blk_cell BK129.out 4).trans rfl; have hcz12_5 : w10.cell? ⟨gb129, 5, none⟩ = some (.int .i64 0) := (blk_cell BK129.out 5).trans rfl; have hcz12_6 : w10.cell? ⟨gb129, 6, none⟩ = some (.int .i64 0) := (blk_cell BK129.out 6).trans rfl; have hcz12_7 : w10.cell? ⟨gb129, 7, none⟩ = some (.int .i64 0) := (blk_cell BK129.out 7).trans rfl; have hcz12_8 : w10.cell? ⟨gb129, 8, none⟩ = some (.int .i64 0) := (blk_cell BK129.out 8).trans rfl; have hfz12_0 := blk_frozen BK129.out 0; have hfz12_1 := blk_frozen BK129.out 1; have hfz12_2 := blk_frozen BK129.out 2; have hfz12_3 := blk_frozen BK129.out 3; have hfz12_4 := blk_frozen BK129.out 4; have hfz12_5 := blk_frozen BK129.out 5; have hfz12_6 := blk_frozen BK129.out 6; have hfz12_7 := blk_frozen BK129.out 7; have hfz12_8 := blk_frozen BK129.out 8) | ((with_reducible refine gate_callee (f := 32) rfl ?_); refine goesL_ (some 16) rfl rfl Try.func32 (by kernel_rfl) rfl #[.int .i64 ((rd_T55 l0 x10_1).f0), .int .i64 1, .int .i64 8] rfl (by (try simp only [List.map_toArray, List.map_cons, List.map_nil]); first | done | rfl | (simp only [List.length_drop, List.length_take]; rfl)) ?_; (with_reducible refine (impl_isIn.calls ((rd_T55 l0 x10_1).f0) 1 8 true _ A7.out).mono ?_); rintro e w' ⟨rfl, ⟨nd, rfl⟩⟩; refine ⟨_, rfl, ?_⟩))
              (try simp only [Act.put, List.setIfInBounds_toArray, List.set_cons_zero, List.set_cons_succ])
              go_cut [29] (fun v29 wc => ∃ (kq : Nat) (x29_8 : Bool), v29 = .bool x29_8 ∧ Aside0 (impl_Owned.j1 kq x4_1 l0 (l0.length : Int) x10_1 x29_8 x128000_1 x128001_1 x128002_1 x128003_1 x128004_1 x128005_1 x128006_1 x128007_1 x128008_1 ((rd_T55 l0 x10_1).f0) ((rd_T55 l0 x10_1).f1) ((rd_T55 l0 x10_1).f2) ((rd_T55 l0 x10_1).f3) ((rd_T55 l0 x10_1).f4) ((rd_T55 l0 x10_1).f5) ((rd_T55 l0 x10_1).f6) ((rd_T55 l0 x10_1).f7) ((rd_T55 l0 x10_1).f8) = some r) ∧ Aside0 (kq ≤ k1) ∧ Aside0 (wc.heap[gb127]? = some (.cells #[.int .i64 x128000_1, .int .i64 x128001_1, .int .i64 x128002_1, .int .i64 x128003_1, .int .i64 x128004_1, .int .i64 x128005_1, .int .i64 x128006_1, .int .i64 x128007_1, .int .i64 x128008_1] 55 (0, 0))) ∧ Aside0 (wc.heap[gb129]? = some (.cells #[.int .i64 ((rd_T55 l0 x10_1).f0), .int .i64 ((rd_T55 l0 x10_1).f1), .int .i64 ((rd_T55 l0 x10_1).f2), .int .i64 ((rd_T55 l0 x10_1).f3), .int .i64 ((rd_T55 l0 x10_1).f4), .int .i64 ((rd_T55 l0 x10_1).f5), .int .i64 ((rd_T55 l0 x10_1).f6), .int .i64 ((rd_T55 l0 x10_1).f7), .int .i64 ((rd_T55 l0 x10_1).f8)] 55 (0, 0))) ∧ Aside0 (Below w.heap.size w wc))
              case first =>
                have H := HC9.out
                clear HC9
                by_cases c13 : ((rd_T55 l0 x10_1).f2) = ((rd_T55 l0 x10_1).f3)
                · rw [if_pos c13] at H
                  have c13b0 : (((rd_T55 l0 x10_1).f2) == ((rd_T55 l0 x10_1).f3)) = true := beq_iff_eq.mpr c13
                  have c13b1 : (((rd_T55 l0 x10_1).f2) != ((rd_T55 l0 x10_1).f3)) = false := bne_eq_false_iff_eq.mpr c13
                  clear c13
                  (first | rw [c13b0] | (simp only [i64_w, i32_w]; rw [c13b0]) | skip)
                  have H' := Aside0.mk H
                  clear H
                  have hnb14 := NB129_127.out
                  have hnc14 := NB127_129.out
                  have hcz15_0 : w10.cell? ⟨gb129, 0, none⟩ = some (.int .i64 0) := (blk_cell BK129.out 0).trans rfl
                  have hcz15_1 : w10.cell? ⟨gb129, 1, none⟩ = some (.int .i64 0) := (blk_cell BK129.out 1).trans rfl
                  have hcz15_2 : w10.cell? ⟨gb129, 2, none⟩ = some (.int .i64 0) := (blk_cell BK129.out 2).trans rfl
                  have hcz15_3 : w10.cell? ⟨gb129, 3, none⟩ = some (.int .i64 0) := (blk_cell BK129.out 3).trans rfl
                  have hcz15_4 : w10.cell? ⟨gb129, 4, none⟩ = some (.int .i64 0) := (blk_cell BK129.out 4).trans rfl
                  have hcz15_5 : w10.cell? ⟨gb129, 5, none⟩ = some (.int .i64 0) := (blk_cell BK129.out 5).trans rfl
                  have hcz15_6 : w10.cell? ⟨gb129, 6, none⟩ = some (.int .i64 0) := (blk_cell BK129.out 6).trans rfl
                  have hcz15_7 : w10.cell? ⟨gb129, 7, none⟩ = some (.int .i64 0) := (blk_cell BK129.out 7).trans rfl
                  have hcz15_8 : w10.cell? ⟨gb129, 8, none⟩ = some (.int .i64 0) := (blk_cell BK129.out 8).trans rfl
                  have hfz15_0 := blk_frozen BK129.out 0
                  have hfz15_1 := blk_frozen BK129.out 1
                  have hfz15_2 := blk_frozen BK129.out 2
                  have hfz15_3 := blk_frozen BK129.out 3
                  have hfz15_4 := blk_frozen BK129.out 4
                  have hfz15_5 := blk_frozen BK129.out 5
                  have hfz15_6 := blk_frozen BK129.out 6
                  have hfz15_7 := blk_frozen BK129.out 7
                  have hfz15_8 := blk_frozen BK129.out 8
                  go_wp2
                  go_meet
                  case rel => exact ⟨_, ((((rd_T55 l0 x10_1).f1) != ((rd_T55 l0 x10_1).f4))), (by first | rfl | (simp; done) | (simp [*]; done)), H', ⟨by have := HK1.out; first | omega | exact Nat.le_refl _⟩, ⟨by (with_reducible repeat (first | refine blk_drewN ?_ _ | refine blk_drew ?_ | refine blk_alloc ?_ _)); refine blk_far ?_ NB127_129.out _; (with_reducible repeat (first | refine blk_drewN ?_ _ | refine blk_drew ?_ | refine blk_alloc ?_ _)); refine blk_far ?_ NB127_129.out _; (with_reducible repeat (first | refine blk_drewN ?_ _ | refine blk_drew ?_ | refine blk_alloc ?_ _)); refine blk_far ?_ NB127_129.out _; (with_reducible repeat (first | refine blk_drewN ?_ _ | refine blk_drew ?_ | refine blk_alloc ?_ _)); refine blk_far ?_ NB127_129.out _; (with_reducible repeat (first | refine blk_drewN ?_ _ | refine blk_drew ?_ | refine blk_alloc ?_ _)); refine blk_far ?_ NB127_129.out _; (with_reducible repeat (first | refine blk_drewN ?_ _ | refine blk_drew ?_ | refine blk_alloc ?_ _)); refine blk_far ?_ NB127_129.out _; (with_reducible repeat (first | refine blk_drewN ?_ _ | refine blk_drew ?_ | refine blk_alloc ?_ _)); refine blk_far ?_ NB127_129.out _; (with_reducible repeat (first | refine blk_drewN ?_ _ | refine blk_drew ?_ | refine blk_alloc ?_ _)); refine blk_far ?_ NB127_129.out _; (with_reducible repeat (first | refine blk_drewN ?_ _ | refine blk_drew ?_ | refine blk_alloc ?_ _)); refine blk_far ?_ NB127_129.out _; (with_reducible repeat (first | refine blk_drewN ?_ _ | refine blk_drew ?_ | refine blk_alloc ?_ _)); exact BK127.out⟩, ⟨by (with_reducible repeat (first | refine blk_drewN ?_ _ | refine blk_drew ?_ | refine blk_alloc ?_ _)); refine blk_put (cs := #[.int .i64 ((rd_T55 l0 x10_1).f0), .int .i64 ((rd_T55 l0 x10_1).f1), .int .i64 ((rd_T55 l0 x10_1).f2), .int .i64 ((rd_T55 l0 x10_1).f3), .int .i64 ((rd_T55 l0 x10_1).f4), .int .i64 ((rd_T55 l0 x10_1).f5), .int .i64 ((rd_T55 l0 x10_1).f6), .int .i64 ((rd_T55 l0 x10_1).f7), .int .i64 0]) ?_ 8 _ rfl; (with_reducible repeat (first | refine blk_drewN ?_ _ | refine blk_drew ?_ | refine blk_alloc ?_ _)); refine blk_put (cs := #[.int .i64 ((rd_T55 l0 x10_1).f0), .int .i64 ((rd_T55 l0 x10_1).f1), .int .i64 ((rd_T55 l0 x10_1).f2), .int .i64 ((rd_T55 l0 x10_1).f3), .int .i64 ((rd_T55 l0 x10_1).f4), .int .i64 ((rd_T55 l0 x10_1).f5), .int .i64 ((rd_T55 l0 x10_1).f6), .int .i64 0, .int .i64 0]) ?_ 7 _ rfl; (with_reducible repeat (first | refine blk_drewN ?_ _ | refine blk_drew ?_ | refine blk_alloc ?_ _)); refine blk_put (cs := #[.int .i64 ((rd_T55 l0 x10_1).f0), .int .i64 ((rd_T55 l0 x10_1).f1), .int .i64 ((rd_T55 l0 x10_1).f2), .int .i64 ((rd_T55 l0 x10_1).f3), .int .i64 ((rd_T55 l0 x10_1).f4), .int .i64 ((rd_T55 l0 x10_1).f5), .int .i64 0, .int .i64 0, .int .i64 0]) ?_ 6 _ rfl; (with_reducible repeat (first | refine blk_drewN ?_ _ | refine blk_drew ?_ | refine blk_alloc ?_ _)); refine blk_put (cs := #[.int .i64 ((rd_T55 l0 x10_1).f0), .int .i64 ((rd_T55 l0 x10_1).f1), .int .i64 ((rd_T55 l0 x10_1).f2), .int .i64 ((rd_T55 l0 x10_1).f3), .int .i64 ((rd_T55 l0 x10_1).f4), .int .i64 0, .int .i64 0, .int .i64 0, .int .i64 0]) ?_ 5 _ rfl; (with_reducible repeat (first | refine blk_drewN ?_ _ | refine blk_drew ?_ | refine blk_alloc ?_ _)); refine blk_put (cs := #[.int .i64 ((rd_T55 l0 x10_1).f0), .int .i64 ((rd_T55 l0 x10_1).f1), .int .i64 ((rd_T55 l0 x10_1).f2), .int .i64 ((rd_T55 l0 x10_1).f3), .int .i64 0, .int .i64 0, .int .i64 0, .int .i64 0, .int .i64 0]) ?_ 4 _ rfl; (with_reducible repeat (first | refine blk_drewN ?_ _ | refine blk_drew ?_ | refine blk_alloc ?_ _)); refine blk_put (cs := #[.int .i64 ((rd_T55 l0 x10_1).f0), .int .i64 ((rd_T55 l0 x10_1).f1), .int .i64 ((rd_T55 l0 x10_1).f2), .int .i64 0, .int .i64 0, .int .i64 0, .int .i64 0, .int .i64 0, .int .i64 0]) ?_ 3 _ rfl; (with_reducible repeat (first | refine blk_drewN ?_ _ | refine blk_drew ?_ | refine blk_alloc ?_ _)); refine blk_put (cs := #[.int .i64 ((rd_T55 l0 x10_1).f0), .int .i64 ((rd_T55 l0 x10_1).f1), .int .i64 0, .int .i64 0, .int .i64 0, .int .i64 0, .int .i64 0, .int .i64 0, .int .i64 0]) ?_ 2 _ rfl; (with_reducible repeat (first | refine blk_drewN ?_ _ | refine blk_drew ?_ | refine blk_alloc ?_ _)); refine blk_put (cs := #[.int .i64 ((rd_T55 l0 x10_1).f0), .int .i64 0, .int .i64 0, .int .i64 0, .int .i64 0, .int .i64 0, .int .i64 0, .int .i64 0, .int .i64 0]) ?_ 1 _ rfl; (with_reducible repeat (first | refine blk_drewN ?_ _ | refine blk_drew ?_ | refine blk_alloc ?_ _)); refine blk_put (cs := #[.int .i64 0, .int .i64 0, .int .i64 0, .int .i64 0, .int .i64 0, .int .i64 0, .int .i64 0, .int .i64 0, .int .i64 0]) ?_ 0 _ rfl; (with_reducible repeat (first | refine blk_drewN ?_ _ | refine blk_drew ?_ | refine blk_alloc ?_ _)); exact BK129.out⟩, ⟨by repeat (first | (with_reducible first | exact HB.out | apply below_alloc | apply pw_below_drewN | apply below_drew1 | refine below_set ?_ GE127.out | refine below_set ?_ GE129.out) | exact HB.out)⟩⟩
                · rw [if_neg c13] at H
                  have c13b0 : (((rd_T55 l0 x10_1).f2) == ((rd_T55 l0 x10_1).f3)) = false := beq_eq_false_iff_ne.mpr c13
                  have c13b1 : (((rd_T55 l0 x10_1).f2) != ((rd_T55 l0 x10_1).f3)) = true := bne_iff_ne.mpr c13
                  (first | rw [c13b0] | (simp only [i64_w, i32_w]; rw [c13b0]) | skip)
                  have H' := Aside0.mk H
                  clear H
                  have hnb16 := NB129_127.out
                  have hnc16 := NB127_129.out
                  have hcz17_0 : w10.cell? ⟨gb129, 0, none⟩ = some (.int .i64 0) := (blk_cell BK129.out 0).trans rfl
                  have hcz17_1 : w10.cell? ⟨gb129, 1, none⟩ = some (.int .i64 0) := (blk_cell BK129.out 1).trans rfl
                  have hcz17_2 : w10.cell? ⟨gb129, 2, none⟩ = some (.int .i64 0) := (blk_cell BK129.out 2).trans rfl
                  have hcz17_3 : w10.cell? ⟨gb129, 3, none⟩ = some (.int .i64 0) := (blk_cell BK129.out 3).trans rfl
                  have hcz17_4 : w10.cell? ⟨gb129, 4, none⟩ = some (.int .i64 0) := (blk_cell BK129.out 4).trans rfl
                  have hcz17_5 : w10.cell? ⟨gb129, 5, none⟩ = some (.int .i64 0) := (blk_cell BK129.out 5).trans rfl
                  have hcz17_6 : w10.cell? ⟨gb129, 6, none⟩ = some (.int .i64 0) := (blk_cell BK129.out 6).trans rfl
                  have hcz17_7 : w10.cell? ⟨gb129, 7, none⟩ = some (.int .i64 0) := (blk_cell BK129.out 7).trans rfl
                  have hcz17_8 : w10.cell? ⟨gb129, 8, none⟩ = some (.int .i64 0) := (blk_cell BK129.out 8).trans rfl
                  have hfz17_0 := blk_frozen BK129.out 0
                  have hfz17_1 := blk_frozen BK129.out 1
                  have hfz17_2 := blk_frozen BK129.out 2
                  have hfz17_3 := blk_frozen BK129.out 3
                  have hfz17_4 := blk_frozen BK129.out 4
                  have hfz17_5 := blk_frozen BK129.out 5
                  have hfz17_6 := blk_frozen BK129.out 6
                  have hfz17_7 := blk_frozen BK129.out 7
                  have hfz17_8 := blk_frozen BK129.out 8
                  go_wp2
                  go_meet
                  case rel => exact ⟨_, (true), (by first | rfl | (simp; done) | (simp [*]; done)), H', ⟨by have := HK1.out; first | omega | exact Nat.le_refl _⟩, ⟨by (with_reducible repeat (first | refine blk_drewN ?_ _ | refine blk_drew ?_ | refine blk_alloc ?_ _)); refine blk_far ?_ NB127_129.out _; (with_reducible repeat (first | refine blk_drewN ?_ _ | refine blk_drew ?_ | refine blk_alloc ?_ _)); refine blk_far ?_ NB127_129.out _; (with_reducible repeat (first | refine blk_drewN ?_ _ | refine blk_drew ?_ | refine blk_alloc ?_ _)); refine blk_far ?_ NB127_129.out _; (with_reducible repeat (first | refine blk_drewN ?_ _ | refine blk_drew ?_ | refine blk_alloc ?_ _)); refine blk_far ?_ NB127_129.out _; (with_reducible repeat (first | refine blk_drewN ?_ _ | refine blk_drew ?_ | refine blk_alloc ?_ _)); refine blk_far ?_ NB127_129.out _; (with_reducible repeat (first | refine blk_drewN ?_ _ | refine blk_drew ?_ | refine blk_alloc ?_ _)); refine blk_far ?_ NB127_129.out _; (with_reducible repeat (first | refine blk_drewN ?_ _ | refine blk_drew ?_ | refine blk_alloc ?_ _)); refine blk_far ?_ NB127_129.out _; (with_reducible repeat (first | refine blk_drewN ?_ _ | refine blk_drew ?_ | refine blk_alloc ?_ _)); refine blk_far ?_ NB127_129.out _; (with_reducible repeat (first | refine blk_drewN ?_ _ | refine blk_drew ?_ | refine blk_alloc ?_ _)); refine blk_far ?_ NB127_129.out _; (with_reducible repeat (first | refine blk_drewN ?_ _ | refine blk_drew ?_ | refine blk_alloc ?_ _)); exact BK127.out⟩, ⟨by (with_reducible repeat (first | refine blk_drewN ?_ _ | refine blk_drew ?_ | refine blk_alloc ?_ _)); refine blk_put (cs := #[.int .i64 ((rd_T55 l0 x10_1).f0), .int .i64 ((rd_T55 l0 x10_1).f1), .int .i64 ((rd_T55 l0 x10_1).f2), .int .i64 ((rd_T55 l0 x10_1).f3), .int .i64 ((rd_T55 l0 x10_1).f4), .int .i64 ((rd_T55 l0 x10_1).f5), .int .i64 ((rd_T55 l0 x10_1).f6), .int .i64 ((rd_T55 l0 x10_1).f7), .int .i64 0]) ?_ 8 _ rfl; (with_reducible repeat (first | refine blk_drewN ?_ _ | refine blk_drew ?_ | refine blk_alloc ?_ _)); refine blk_put (cs := #[.int .i64 ((rd_T55 l0 x10_1).f0), .int .i64 ((rd_T55 l0 x10_1).f1), .int .i64 ((rd_T55 l0 x10_1).f2), .int .i64 ((rd_T55 l0 x10_1).f3), .int .i64 ((rd_T55 l0 x10_1).f4), .int .i64 ((rd_T55 l0 x10_1).f5), .int .i64 ((rd_T55 l0 x10_1).f6), .int .i64 0, .int .i64 0]) ?_ 7 _ rfl; (with_reducible repeat (first | refine blk_drewN ?_ _ | refine blk_drew ?_ | refine blk_alloc ?_ _)); refine blk_put (cs := #[.int .i64 ((rd_T55 l0 x10_1).f0), .int .i64 ((rd_T55 l0 x10_1).f1), .int .i64 ((rd_T55 l0 x10_1).f2), .int .i64 ((rd_T55 l0 x10_1).f3), .int .i64 ((rd_T55 l0 x10_1).f4), .int .i64 ((rd_T55 l0 x10_1).f5), .int .i64 0, .int .i64 0, .int .i64 0]) ?_ 6 _ rfl; (with_reducible repeat (first | refine blk_drewN ?_ _ | refine blk_drew ?_ | refine blk_alloc ?_ _)); refine blk_put (cs := #[.int .i64 ((rd_T55 l0 x10_1).f0), .int .i64 ((rd_T55 l0 x10_1).f1), .int .i64 ((rd_T55 l0 x10_1).f2), .int .i64 ((rd_T55 l0 x10_1).f3), .int .i64 ((rd_T55 l0 x10_1).f4), .int .i64 0, .int .i64 0, .int .i64 0, .int .i64 0]) ?_ 5 _ rfl; (with_reducible repeat (first | refine blk_drewN ?_ _ | refine blk_drew ?_ | refine blk_alloc ?_ _)); refine blk_put (cs := #[.int .i64 ((rd_T55 l0 x10_1).f0), .int .i64 ((rd_T55 l0 x10_1).f1), .int .i64 ((rd_T55 l0 x10_1).f2), .int .i64 ((rd_T55 l0 x10_1).f3), .int .i64 0, .int .i64 0, .int .i64 0, .int .i64 0, .int .i64 0]) ?_ 4 _ rfl; (with_reducible repeat (first | refine blk_drewN ?_ _ | refine blk_drew ?_ | refine blk_alloc ?_ _)); refine blk_put (cs := #[.int .i64 ((rd_T55 l0 x10_1).f0), .int .i64 ((rd_T55 l0 x10_1).f1), .int .i64 ((rd_T55 l0 x10_1).f2), .int .i64 0, .int .i64 0, .int .i64 0, .int .i64 0, .int .i64 0, .int .i64 0]) ?_ 3 _ rfl; (with_reducible repeat (first | refine blk_drewN ?_ _ | refine blk_drew ?_ | refine blk_alloc ?_ _)); refine blk_put (cs := #[.int .i64 ((rd_T55 l0 x10_1).f0), .int .i64 ((rd_T55 l0 x10_1).f1), .int .i64 0, .int .i64 0, .int .i64 0, .int .i64 0, .int .i64 0, .int .i64 0, .int .i64 0]) ?_ 2 _ rfl; (with_reducible repeat (first | refine blk_drewN ?_ _ | refine blk_drew ?_ | refine blk_alloc ?_ _)); refine blk_put (cs := #[.int .i64 ((rd_T55 l0 x10_1).f0), .int .i64 0, .int .i64 0, .int .i64 0, .int .i64 0, .int .i64 0, .int .i64 0, .int .i64 0, .int .i64 0]) ?_ 1 _ rfl; (with_reducible repeat (first | refine blk_drewN ?_ _ | refine blk_drew ?_ | refine blk_alloc ?_ _)); refine blk_put (cs := #[.int .i64 0, .int .i64 0, .int .i64 0, .int .i64 0, .int .i64 0, .int .i64 0, .int .i64 0, .int .i64 0, .int .i64 0]) ?_ 0 _ rfl; (with_reducible repeat (first | refine blk_drewN ?_ _ | refine blk_drew ?_ | refine blk_alloc ?_ _)); exact BK129.out⟩, ⟨by repeat (first | (with_reducible first | exact HB.out | apply below_alloc | apply pw_below_drewN | apply below_drew1 | refine below_set ?_ GE127.out | refine below_set ?_ GE129.out) | exact HB.out)⟩⟩
              case rest =>
                clear HC9
                try clear c1
                try clear p1
                try clear q1
                try clear hx1
                try clear c2
                try clear p2
                try clear c3
                try clear c4
                try clear c4b0
                try clear c5
                try clear c5b0
                try clear c6
                try clear c6b0
                try clear p6
                try clear c8
                try clear c11
                try clear p12
                try clear q12
                try clear hx12
                try clear c13
                try clear c13b0
                try clear c13b1
                try clear c14
                try clear c16
                try clear hcz12_0
                try clear hcz12_1
                try clear hcz12_2
                try clear hcz12_3
                try clear hcz12_4
                try clear hcz12_5
                try clear hcz12_6
                try clear hcz12_7
                try clear hcz12_8
                try clear hcz15_0
                try clear hcz15_1
                try clear hcz15_2
                try clear hcz15_3
                try clear hcz15_4
                try clear hcz15_5
                try clear hcz15_6
                try clear hcz15_7
                try clear hcz15_8
                try clear hcz17_0
                try clear hcz17_1
                try clear hcz17_2
                try clear hcz17_3
                try clear hcz17_4
                try clear hcz17_5
                try clear hcz17_6
                try clear hcz17_7
                try clear hcz17_8
                try clear hcz3_0
                try clear hcz3_1
                try clear hcz3_2
                try clear hcz3_3
                try clear hcz3_4
                try clear hcz3_5
                try clear hcz3_6
                try clear hcz3_7
                try clear hcz3_8
                try clear hfz12_0
                try clear hfz12_1
                try clear hfz12_2
                try clear hfz12_3
                try clear hfz12_4
                try clear hfz12_5
                try clear hfz12_6
                try clear hfz12_7
                try clear hfz12_8
                try clear hfz15_0
                try clear hfz15_1
                try clear hfz15_2
                try clear hfz15_3
                try clear hfz15_4
                try clear hfz15_5
                try clear hfz15_6
                try clear hfz15_7
                try clear hfz15_8
                try clear hfz17_0
                try clear hfz17_1
                try clear hfz17_2
                try clear hfz17_3
                try clear hfz17_4
                try clear hfz17_5
                try clear hfz17_6
                try clear hfz17_7
                try clear hfz17_8
                try clear hfz3_0
                try clear hfz3_1
                try clear hfz3_2
                try clear hfz3_3
                try clear hfz3_4
                try clear hfz3_5
                try clear hfz3_6
                try clear hfz3_7
                try clear hfz3_8
                try clear hx128_0
                try clear hx128_1
                try clear hx128_2
                try clear hx128_3
                try clear hx128_4
                try clear hx128_5
                try clear hx128_6
                try clear hx128_7
                try clear hx128_8
                try clear p128
                try clear p2
                try clear q128
                obtain ⟨kq, x29_8, rfl, HA, HJ8, BK127, BK129, HB⟩ := hcut
                cases kq with
                | zero => exact absurd HA.out (by simp [impl_Owned.j1])
                | succ kj8 =>
                  have H := HA.out
                  clear HA
                  simp only [impl_Owned.j1] at H
                  by_cases c18 : x29_8 = true
                  · subst c18
                    have H1 : (some false) = some r := by rw [if_pos rfl] at H; exact H
                    clear H
                    have H := H1
                    clear H1
                    obtain rfl := Option.some.inj H
                    go_wp2
                    go_ret
                    exact ⟨by first | rfl | (simp [errW_none, errW_some] <;> rfl) | (simp [*, errW_none, errW_some] <;> rfl), by repeat (first | (with_reducible first | exact HB.out | apply below_alloc | apply pw_below_drewN | apply below_drew1 | refine below_set ?_ GE127.out | refine below_set ?_ GE129.out) | exact HB.out)⟩
                  · replace c18 := Bool.eq_false_iff.mpr c18
                    subst c18
                    have H1 : (if ((rd_T55 l0 x10_1).f0) = 8 then (if ((rd_T55 l0 x10_1).f8) = ((rd_T55 l0 x10_1).f2) then (if x4_1 = true then (if ((rd_T55 l0 x10_1).f8) ≤ x128008_1 then (some false) else (impl_Owned.l0 kj8 true l0 (l0.length : Int) (wrap64 (x10_1 + 1)) ((rd_T55 l0 x10_1).f0) ((rd_T55 l0 x10_1).f1) ((rd_T55 l0 x10_1).f2) ((rd_T55 l0 x10_1).f3) ((rd_T55 l0 x10_1).f4) ((rd_T55 l0 x10_1).f5) ((rd_T55 l0 x10_1).f6) ((rd_T55 l0 x10_1).f7) ((rd_T55 l0 x10_1).f8))) else (impl_Owned.l0 kj8 true l0 (l0.length : Int) (wrap64 (x10_1 + 1)) ((rd_T55 l0 x10_1).f0) ((rd_T55 l0 x10_1).f1) ((rd_T55 l0 x10_1).f2) ((rd_T55 l0 x10_1).f3) ((rd_T55 l0 x10_1).f4) ((rd_T55 l0 x10_1).f5) ((rd_T55 l0 x10_1).f6) ((rd_T55 l0 x10_1).f7) ((rd_T55 l0 x10_1).f8))) else (some false)) else (if x4_1 = true then (if x128001_1 = ((rd_T55 l0 x10_1).f1) then (if x128008_1 = ((rd_T55 l0 x10_1).f2) then (impl_Owned.l0 kj8 x4_1 l0 (l0.length : Int) (wrap64 (x10_1 + 1)) x128000_1 x128001_1 x128002_1 x128003_1 x128004_1 x128005_1 x128006_1 x128007_1 x128008_1) else (some false)) else (some false)) else (some false))) = some r := by rw [if_neg (show ¬ (false = true) by decide)] at H; exact H
                    clear H
                    have H := H1
                    clear H1
                    by_cases c19 : ((rd_T55 l0 x10_1).f0) = 8
                    · rw [if_pos c19] at H
                      have c19b0 : (((rd_T55 l0 x10_1).f0) == 8) = true := beq_iff_eq.mpr c19
                      have c19b1 : (((rd_T55 l0 x10_1).f0) != 8) = false := bne_eq_false_iff_eq.mpr c19
                      clear c19
                      by_cases c20 : ((rd_T55 l0 x10_1).f8) = ((rd_T55 l0 x10_1).f2)
                      · rw [if_pos c20] at H
                        have c20b0 : (((rd_T55 l0 x10_1).f8) == ((rd_T55 l0 x10_1).f2)) = true := beq_iff_eq.mpr c20
                        have c20b1 : (((rd_T55 l0 x10_1).f8) != ((rd_T55 l0 x10_1).f2)) = false := bne_eq_false_iff_eq.mpr c20
                        clear c20
                        by_cases c21 : x4_1 = true
                        · subst c21
                          have H1 : (if ((rd_T55 l0 x10_1).f8) ≤ x128008_1 then (some false) else (impl_Owned.l0 kj8 true l0 (l0.length : Int) (wrap64 (x10_1 + 1)) ((rd_T55 l0 x10_1).f0) ((rd_T55 l0 x10_1).f1) ((rd_T55 l0 x10_1).f2) ((rd_T55 l0 x10_1).f3) ((rd_T55 l0 x10_1).f4) ((rd_T55 l0 x10_1).f5) ((rd_T55 l0 x10_1).f6) ((rd_T55 l0 x10_1).f7) ((rd_T55 l0 x10_1).f8))) = some r := by rw [if_pos rfl] at H; exact H
                          clear H
                          have H := H1
                          clear H1
                          by_cases c22 : ((rd_T55 l0 x10_1).f8) ≤ x128008_1
                          · rw [if_pos c22] at H
                            have c22b0 : decide (((rd_T55 l0 x10_1).f8) ≤ x128008_1) = true := decide_eq_true c22
                            clear c22
                            obtain rfl := Option.some.inj H
                            have hnb23 := NB129_127.out
                            have hnc23 := NB127_129.out
                            have hcz24_0 : wc.cell? ⟨gb129, 0, none⟩ = some (.int .i64 ((rd_T55 l0 x10_1).f0)) := (blk_cell BK129.out 0).trans rfl
                            have hcz24_1 : wc.cell? ⟨gb129, 1, none⟩ = some (.int .i64 ((rd_T55 l0 x10_1).f1)) := (blk_cell BK129.out 1).trans rfl
                            have hcz24_2 : wc.cell? ⟨gb129, 2, none⟩ = some (.int .i64 ((rd_T55 l0 x10_1).f2)) := (blk_cell BK129.out 2).trans rfl
                            have hcz24_3 : wc.cell? ⟨gb129, 3, none⟩ = some (.int .i64 ((rd_T55 l0 x10_1).f3)) := (blk_cell BK129.out 3).trans rfl
                            have hcz24_4 : wc.cell? ⟨gb129, 4, none⟩ = some (.int .i64 ((rd_T55 l0 x10_1).f4)) := (blk_cell BK129.out 4).trans rfl
                            have hcz24_5 : wc.cell? ⟨gb129, 5, none⟩ = some (.int .i64 ((rd_T55 l0 x10_1).f5)) := (blk_cell BK129.out 5).trans rfl
                            have hcz24_6 : wc.cell? ⟨gb129, 6, none⟩ = some (.int .i64 ((rd_T55 l0 x10_1).f6)) := (blk_cell BK129.out 6).trans rfl
                            have hcz24_7 : wc.cell? ⟨gb129, 7, none⟩ = some (.int .i64 ((rd_T55 l0 x10_1).f7)) := (blk_cell BK129.out 7).trans rfl
                            have hcz24_8 : wc.cell? ⟨gb129, 8, none⟩ = some (.int .i64 ((rd_T55 l0 x10_1).f8)) := (blk_cell BK129.out 8).trans rfl
                            have hfz24_0 := blk_frozen BK129.out 0
                            have hfz24_1 := blk_frozen BK129.out 1
                            have hfz24_2 := blk_frozen BK129.out 2
                            have hfz24_3 := blk_frozen BK129.out 3
                            have hfz24_4 := blk_frozen BK129.out 4
                            have hfz24_5 := blk_frozen BK129.out 5
                            have hfz24_6 := blk_frozen BK129.out 6
                            have hfz24_7 := blk_frozen BK129.out 7
                            have hfz24_8 := blk_frozen BK129.out 8
                            have hcz25_0 : wc.cell? ⟨gb127, 0, none⟩ = some (.int .i64 x128000_1) := (blk_cell BK127.out 0).trans rfl
                            have hcz25_1 : wc.cell? ⟨gb127, 1, none⟩ = some (.int .i64 x128001_1) := (blk_cell BK127.out 1).trans rfl
                            have hcz25_2 : wc.cell? ⟨gb127, 2, none⟩ = some (.int .i64 x128002_1) := (blk_cell BK127.out 2).trans rfl
                            have hcz25_3 : wc.cell? ⟨gb127, 3, none⟩ = some (.int .i64 x128003_1) := (blk_cell BK127.out 3).trans rfl
                            have hcz25_4 : wc.cell? ⟨gb127, 4, none⟩ = some (.int .i64 x128004_1) := (blk_cell BK127.out 4).trans rfl
                            have hcz25_5 : wc.cell? ⟨gb127, 5, none⟩ = some (.int .i64 x128005_1) := (blk_cell BK127.out 5).trans rfl
                            have hcz25_6 : wc.cell? ⟨gb127, 6, none⟩ = some (.int .i64 x128006_1) := (blk_cell BK127.out 6).trans rfl
                            have hcz25_7 : wc.cell? ⟨gb127, 7, none⟩ = some (.int .i64 x128007_1) := (blk_cell BK127.out 7).trans rfl
                            have hcz25_8 : wc.cell? ⟨gb127, 8, none⟩ = some (.int .i64 x128008_1) := (blk_cell BK127.out 8).trans rfl
                            have hfz25_0 := blk_frozen BK127.out 0
                            have hfz25_1 := blk_frozen BK127.out 1
                            have hfz25_2 := blk_frozen BK127.out 2
                            have hfz25_3 := blk_frozen BK127.out 3
                            have hfz25_4 := blk_frozen BK127.out 4
                            have hfz25_5 := blk_frozen BK127.out 5
                            have hfz25_6 := blk_frozen BK127.out 6
                            have hfz25_7 := blk_frozen BK127.out 7
                            have hfz25_8 := blk_frozen BK127.out 8
                            go_wp2
                            go_ret
                            exact ⟨by first | rfl | (simp [errW_none, errW_some] <;> rfl) | (simp [*, errW_none, errW_some] <;> rfl), by repeat (first | (with_reducible first | exact HB.out | apply below_alloc | apply pw_below_drewN | apply below_drew1 | refine below_set ?_ GE127.out | refine below_set ?_ GE129.out) | exact HB.out)⟩
                          · rw [if_neg c22] at H
                            have c22b0 : decide (((rd_T55 l0 x10_1).f8) ≤ x128008_1) = false := decide_eq_false c22
                            clear c22
                            have H' := Aside0.mk H
                            clear H
                            have hnb26 := NB129_127.out
                            have hnc26 := NB127_129.out
                            have hcz27_0 : wc.cell? ⟨gb129, 0, none⟩ = some (.int .i64 ((rd_T55 l0 x10_1).f0)) := (blk_cell BK129.out 0).trans rfl
                            have hcz27_1 : wc.cell? ⟨gb129, 1, none⟩ = some (.int .i64 ((rd_T55 l0 x10_1).f1)) := (blk_cell BK129.out 1).trans rfl
                            have hcz27_2 : wc.cell? ⟨gb129, 2, none⟩ = some (.int .i64 ((rd_T55 l0 x10_1).f2)) := (blk_cell BK129.out 2).trans rfl
                            have hcz27_3 : wc.cell? ⟨gb129, 3, none⟩ = some (.int .i64 ((rd_T55 l0 x10_1).f3)) := (blk_cell BK129.out 3).trans rfl
                            have hcz27_4 : wc.cell? ⟨gb129, 4, none⟩ = some (.int .i64 ((rd_T55 l0 x10_1).f4)) := (blk_cell BK129.out 4).trans rfl
                            have hcz27_5 : wc.cell? ⟨gb129, 5, none⟩ = some (.int .i64 ((rd_T55 l0 x10_1).f5)) := (blk_cell BK129.out 5).trans rfl
                            have hcz27_6 : wc.cell? ⟨gb129, 6, none⟩ = some (.int .i64 ((rd_T55 l0 x10_1).f6)) := (blk_cell BK129.out 6).trans rfl
                            have hcz27_7 : wc.cell? ⟨gb129, 7, none⟩ = some (.int .i64 ((rd_T55 l0 x10_1).f7)) := (blk_cell BK129.out 7).trans rfl
                            have hcz27_8 : wc.cell? ⟨gb129, 8, none⟩ = some (.int .i64 ((rd_T55 l0 x10_1).f8)) := (blk_cell BK129.out 8).trans rfl
                            have hfz27_0 := blk_frozen BK129.out 0
                            have hfz27_1 := blk_frozen BK129.out 1
                            have hfz27_2 := blk_frozen BK129.out 2
                            have hfz27_3 := blk_frozen BK129.out 3
                            have hfz27_4 := blk_frozen BK129.out 4
                            have hfz27_5 := blk_frozen BK129.out 5
                            have hfz27_6 := blk_frozen BK129.out 6
                            have hfz27_7 := blk_frozen BK129.out 7
                            have hfz27_8 := blk_frozen BK129.out 8
                            have hcz28_0 : wc.cell? ⟨gb127, 0, none⟩ = some (.int .i64 x128000_1) := (blk_cell BK127.out 0).trans rfl
                            have hcz28_1 : wc.cell? ⟨gb127, 1, none⟩ = some (.int .i64 x128001_1) := (blk_cell BK127.out 1).trans rfl
                            have hcz28_2 : wc.cell? ⟨gb127, 2, none⟩ = some (.int .i64 x128002_1) := (blk_cell BK127.out 2).trans rfl
                            have hcz28_3 : wc.cell? ⟨gb127, 3, none⟩ = some (.int .i64 x128003_1) := (blk_cell BK127.out 3).trans rfl
                            have hcz28_4 : wc.cell? ⟨gb127, 4, none⟩ = some (.int .i64 x128004_1) := (blk_cell BK127.out 4).trans rfl
                            have hcz28_5 : wc.cell? ⟨gb127, 5, none⟩ = some (.int .i64 x128005_1) := (blk_cell BK127.out 5).trans rfl
                            have hcz28_6 : wc.cell? ⟨gb127, 6, none⟩ = some (.int .i64 x128006_1) := (blk_cell BK127.out 6).trans rfl
                            have hcz28_7 : wc.cell? ⟨gb127, 7, none⟩ = some (.int .i64 x128007_1) := (blk_cell BK127.out 7).trans rfl
                            have hcz28_8 : wc.cell? ⟨gb127, 8, none⟩ = some (.int .i64 x128008_1) := (blk_cell BK127.out 8).trans rfl
                            have hfz28_0 := blk_frozen BK127.out 0
                            have hfz28_1 := blk_frozen BK127.out 1
                            have hfz28_2 := blk_frozen BK127.out 2
                            have hfz28_3 := blk_frozen BK127.out 3
                            have hfz28_4 := blk_frozen BK127.out 4
                            have hfz28_5 := blk_frozen BK127.out 5
                            have hfz28_6 := blk_frozen BK127.out 6
                            have hfz28_7 := blk_frozen BK127.out 7
                            have hfz28_8 := blk_frozen BK127.out 8
                            go_wp2
                            go_roundg kj8
                            case measure => have := HK1.out; have := HJ8.out; omega
                            case rel => exact ⟨(true), (wrap64 (x10_1 + 1)), (((rd_T55 l0 x10_1).f0)), (((rd_T55 l0 x10_1).f1)), (((rd_T55 l0 x10_1).f2)), (((rd_T55 l0 x10_1).f3)), (((rd_T55 l0 x10_1).f4)), (((rd_T55 l0 x10_1).f5)), (((rd_T55 l0 x10_1).f6)), (((rd_T55 l0 x10_1).f7)), (((rd_T55 l0 x10_1).f8)), (by first | rfl | (simp; done) | (simp [*]; done)), (by first | rfl | (simp; done) | (simp [*]; done)), H', ⟨by have := HK1.out; have := HJ8.out; omega⟩, ⟨by (with_reducible repeat (first | refine blk_drewN ?_ _ | refine blk_drew ?_ | refine blk_alloc ?_ _)); refine blk_put (cs := #[.int .i64 ((rd_T55 l0 x10_1).f0), .int .i64 ((rd_T55 l0 x10_1).f1), .int .i64 ((rd_T55 l0 x10_1).f2), .int .i64 ((rd_T55 l0 x10_1).f3), .int .i64 ((rd_T55 l0 x10_1).f4), .int .i64 ((rd_T55 l0 x10_1).f5), .int .i64 ((rd_T55 l0 x10_1).f6), .int .i64 ((rd_T55 l0 x10_1).f7), .int .i64 x128008_1]) ?_ 8 _ rfl; (with_reducible repeat (first | refine blk_drewN ?_ _ | refine blk_drew ?_ | refine blk_alloc ?_ _)); refine blk_put (cs := #[.int .i64 ((rd_T55 l0 x10_1).f0), .int .i64 ((rd_T55 l0 x10_1).f1), .int .i64 ((rd_T55 l0 x10_1).f2), .int .i64 ((rd_T55 l0 x10_1).f3), .int .i64 ((rd_T55 l0 x10_1).f4), .int .i64 ((rd_T55 l0 x10_1).f5), .int .i64 ((rd_T55 l0 x10_1).f6), .int .i64 x128007_1, .int .i64 x128008_1]) ?_ 7 _ rfl; (with_reducible repeat (first | refine blk_drewN ?_ _ | refine blk_drew ?_ | refine blk_alloc ?_ _)); refine blk_put (cs := #[.int .i64 ((rd_T55 l0 x10_1).f0), .int .i64 ((rd_T55 l0 x10_1).f1), .int .i64 ((rd_T55 l0 x10_1).f2), .int .i64 ((rd_T55 l0 x10_1).f3), .int .i64 ((rd_T55 l0 x10_1).f4), .int .i64 ((rd_T55 l0 x10_1).f5), .int .i64 x128006_1, .int .i64 x128007_1, .int .i64 x128008_1]) ?_ 6 _ rfl; (with_reducible repeat (first | refine blk_drewN ?_ _ | refine blk_drew ?_ | refine blk_alloc ?_ _)); refine blk_put (cs := #[.int .i64 ((rd_T55 l0 x10_1).f0), .int .i64 ((rd_T55 l0 x10_1).f1), .int .i64 ((rd_T55 l0 x10_1).f2), .int .i64 ((rd_T55 l0 x10_1).f3), .int .i64 ((rd_T55 l0 x10_1).f4), .int .i64 x128005_1, .int .i64 x128006_1, .int .i64 x128007_1, .int .i64 x128008_1]) ?_ 5 _ rfl; (with_reducible repeat (first | refine blk_drewN ?_ _ | refine blk_drew ?_ | refine blk_alloc ?_ _)); refine blk_put (cs := #[.int .i64 ((rd_T55 l0 x10_1).f0), .int .i64 ((rd_T55 l0 x10_1).f1), .int .i64 ((rd_T55 l0 x10_1).f2), .int .i64 ((rd_T55 l0 x10_1).f3), .int .i64 x128004_1, .int .i64 x128005_1, .int .i64 x128006_1, .int .i64 x128007_1, .int .i64 x128008_1]) ?_ 4 _ rfl; (with_reducible repeat (first | refine blk_drewN ?_ _ | refine blk_drew ?_ | refine blk_alloc ?_ _)); refine blk_put (cs := #[.int .i64 ((rd_T55 l0 x10_1).f0), .int .i64 ((rd_T55 l0 x10_1).f1), .int .i64 ((rd_T55 l0 x10_1).f2), .int .i64 x128003_1, .int .i64 x128004_1, .int .i64 x128005_1, .int .i64 x128006_1, .int .i64 x128007_1, .int .i64 x128008_1]) ?_ 3 _ rfl; (with_reducible repeat (first | refine blk_drewN ?_ _ | refine blk_drew ?_ | refine blk_alloc ?_ _)); refine blk_put (cs := #[.int .i64 ((rd_T55 l0 x10_1).f0), .int .i64 ((rd_T55 l0 x10_1).f1), .int .i64 x128002_1, .int .i64 x128003_1, .int .i64 x128004_1, .int .i64 x128005_1, .int .i64 x128006_1, .int .i64 x128007_1, .int .i64 x128008_1]) ?_ 2 _ rfl; (with_reducible repeat (first | refine blk_drewN ?_ _ | refine blk_drew ?_ | refine blk_alloc ?_ _)); refine blk_put (cs := #[.int .i64 ((rd_T55 l0 x10_1).f0), .int .i64 x128001_1, .int .i64 x128002_1, .int .i64 x128003_1, .int .i64 x128004_1, .int .i64 x128005_1, .int .i64 x128006_1, .int .i64 x128007_1, .int .i64 x128008_1]) ?_ 1 _ rfl; (with_reducible repeat (first | refine blk_drewN ?_ _ | refine blk_drew ?_ | refine blk_alloc ?_ _)); refine blk_put (cs := #[.int .i64 x128000_1, .int .i64 x128001_1, .int .i64 x128002_1, .int .i64 x128003_1, .int .i64 x128004_1, .int .i64 x128005_1, .int .i64 x128006_1, .int .i64 x128007_1, .int .i64 x128008_1]) ?_ 0 _ rfl; (with_reducible repeat (first | refine blk_drewN ?_ _ | refine blk_drew ?_ | refine blk_alloc ?_ _)); exact BK127.out⟩, ⟨by repeat (first | (with_reducible first | exact HB.out | apply below_alloc | apply pw_below_drewN | apply below_drew1 | refine below_set ?_ GE127.out | refine below_set ?_ GE129.out) | exact HB.out)⟩⟩
                        · replace c21 := Bool.eq_false_iff.mpr c21
                          subst c21
                          have H1 : (impl_Owned.l0 kj8 true l0 (l0.length : Int) (wrap64 (x10_1 + 1)) ((rd_T55 l0 x10_1).f0) ((rd_T55 l0 x10_1).f1) ((rd_T55 l0 x10_1).f2) ((rd_T55 l0 x10_1).f3) ((rd_T55 l0 x10_1).f4) ((rd_T55 l0 x10_1).f5) ((rd_T55 l0 x10_1).f6) ((rd_T55 l0 x10_1).f7) ((rd_T55 l0 x10_1).f8)) = some r := by rw [if_neg (show ¬ (false = true) by decide)] at H; exact H
                          clear H
                          have H := H1
                          clear H1
                          have H' := Aside0.mk H
                          clear H
                          have hnb29 := NB129_127.out
                          have hnc29 := NB127_129.out
                          have hcz30_0 : wc.cell? ⟨gb129, 0, none⟩ = some (.int .i64 ((rd_T55 l0 x10_1).f0)) := (blk_cell BK129.out 0).trans rfl
                          have hcz30_1 : wc.cell? ⟨gb129, 1, none⟩ = some (.int .i64 ((rd_T55 l0 x10_1).f1)) := (blk_cell BK129.out 1).trans rfl
                          have hcz30_2 : wc.cell? ⟨gb129, 2, none⟩ = some (.int .i64 ((rd_T55 l0 x10_1).f2)) := (blk_cell BK129.out 2).trans rfl
                          have hcz30_3 : wc.cell? ⟨gb129, 3, none⟩ = some (.int .i64 ((rd_T55 l0 x10_1).f3)) := (blk_cell BK129.out 3).trans rfl
                          have hcz30_4 : wc.cell? ⟨gb129, 4, none⟩ = some (.int .i64 ((rd_T55 l0 x10_1).f4)) := (blk_cell BK129.out 4).trans rfl
                          have hcz30_5 : wc.cell? ⟨gb129, 5, none⟩ = some (.int .i64 ((rd_T55 l0 x10_1).f5)) := (blk_cell BK129.out 5).trans rfl
                          have hcz30_6 : wc.cell? ⟨gb129, 6, none⟩ = some (.int .i64 ((rd_T55 l0 x10_1).f6)) := (blk_cell BK129.out 6).trans rfl
                          have hcz30_7 : wc.cell? ⟨gb129, 7, none⟩ = some (.int .i64 ((rd_T55 l0 x10_1).f7)) := (blk_cell BK129.out 7).trans rfl
                          have hcz30_8 : wc.cell? ⟨gb129, 8, none⟩ = some (.int .i64 ((rd_T55 l0 x10_1).f8)) := (blk_cell BK129.out 8).trans rfl
                          have hfz30_0 := blk_frozen BK129.out 0
                          have hfz30_1 := blk_frozen BK129.out 1
                          have hfz30_2 := blk_frozen BK129.out 2
                          have hfz30_3 := blk_frozen BK129.out 3
                          have hfz30_4 := blk_frozen BK129.out 4
                          have hfz30_5 := blk_frozen BK129.out 5
                          have hfz30_6 := blk_frozen BK129.out 6
                          have hfz30_7 := blk_frozen BK129.out 7
                          have hfz30_8 := blk_frozen BK129.out 8
                          have hcz31_0 : wc.cell? ⟨gb127, 0, none⟩ = some (.int .i64 x128000_1) := (blk_cell BK127.out 0).trans rfl
                          have hcz31_1 : wc.cell? ⟨gb127, 1, none⟩ = some (.int .i64 x128001_1) := (blk_cell BK127.out 1).trans rfl
                          have hcz31_2 : wc.cell? ⟨gb127, 2, none⟩ = some (.int .i64 x128002_1) := (blk_cell BK127.out 2).trans rfl
                          have hcz31_3 : wc.cell? ⟨gb127, 3, none⟩ = some (.int .i64 x128003_1) := (blk_cell BK127.out 3).trans rfl
                          have hcz31_4 : wc.cell? ⟨gb127, 4, none⟩ = some (.int .i64 x128004_1) := (blk_cell BK127.out 4).trans rfl
                          have hcz31_5 : wc.cell? ⟨gb127, 5, none⟩ = some (.int .i64 x128005_1) := (blk_cell BK127.out 5).trans rfl
                          have hcz31_6 : wc.cell? ⟨gb127, 6, none⟩ = some (.int .i64 x128006_1) := (blk_cell BK127.out 6).trans rfl
                          have hcz31_7 : wc.cell? ⟨gb127, 7, none⟩ = some (.int .i64 x128007_1) := (blk_cell BK127.out 7).trans rfl
                          have hcz31_8 : wc.cell? ⟨gb127, 8, none⟩ = some (.int .i64 x128008_1) := (blk_cell BK127.out 8).trans rfl
                          have hfz31_0 := blk_frozen BK127.out 0
                          have hfz31_1 := blk_frozen BK127.out 1
                          have hfz31_2 := blk_frozen BK127.out 2
                          have hfz31_3 := blk_frozen BK127.out 3
                          have hfz31_4 := blk_frozen BK127.out 4
                          have hfz31_5 := blk_frozen BK127.out 5
                          have hfz31_6 := blk_frozen BK127.out 6
                          have hfz31_7 := blk_frozen BK127.out 7
                          have hfz31_8 := blk_frozen BK127.out 8
                          go_wp2
                          go_roundg kj8
                          case measure => have := HK1.out; have := HJ8.out; omega
                          case rel => exact ⟨(true), (wrap64 (x10_1 + 1)), (((rd_T55 l0 x10_1).f0)), (((rd_T55 l0 x10_1).f1)), (((rd_T55 l0 x10_1).f2)), (((rd_T55 l0 x10_1).f3)), (((rd_T55 l0 x10_1).f4)), (((rd_T55 l0 x10_1).f5)), (((rd_T55 l0 x10_1).f6)), (((rd_T55 l0 x10_1).f7)), (((rd_T55 l0 x10_1).f8)), (by first | rfl | (simp; done) | (simp [*]; done)), (by first | rfl | (simp; done) | (simp [*]; done)), H', ⟨by have := HK1.out; have := HJ8.out; omega⟩, ⟨by (with_reducible repeat (first | refine blk_drewN ?_ _ | refine blk_drew ?_ | refine blk_alloc ?_ _)); refine blk_put (cs := #[.int .i64 ((rd_T55 l0 x10_1).f0), .int .i64 ((rd_T55 l0 x10_1).f1), .int .i64 ((rd_T55 l0 x10_1).f2), .int .i64 ((rd_T55 l0 x10_1).f3), .int .i64 ((rd_T55 l0 x10_1).f4), .int .i64 ((rd_T55 l0 x10_1).f5), .int .i64 ((rd_T55 l0 x10_1).f6), .int .i64 ((rd_T55 l0 x10_1).f7), .int .i64 x128008_1]) ?_ 8 _ rfl; (with_reducible repeat (first | refine blk_drewN ?_ _ | refine blk_drew ?_ | refine blk_alloc ?_ _)); refine blk_put (cs := #[.int .i64 ((rd_T55 l0 x10_1).f0), .int .i64 ((rd_T55 l0 x10_1).f1), .int .i64 ((rd_T55 l0 x10_1).f2), .int .i64 ((rd_T55 l0 x10_1).f3), .int .i64 ((rd_T55 l0 x10_1).f4), .int .i64 ((rd_T55 l0 x10_1).f5), .int .i64 ((rd_T55 l0 x10_1).f6), .int .i64 x128007_1, .int .i64 x128008_1]) ?_ 7 _ rfl; (with_reducible repeat (first | refine blk_drewN ?_ _ | refine blk_drew ?_ | refine blk_alloc ?_ _)); refine blk_put (cs := #[.int .i64 ((rd_T55 l0 x10_1).f0), .int .i64 ((rd_T55 l0 x10_1).f1), .int .i64 ((rd_T55 l0 x10_1).f2), .int .i64 ((rd_T55 l0 x10_1).f3), .int .i64 ((rd_T55 l0 x10_1).f4), .int .i64 ((rd_T55 l0 x10_1).f5), .int .i64 x128006_1, .int .i64 x128007_1, .int .i64 x128008_1]) ?_ 6 _ rfl; (with_reducible repeat (first | refine blk_drewN ?_ _ | refine blk_drew ?_ | refine blk_alloc ?_ _)); refine blk_put (cs := #[.int .i64 ((rd_T55 l0 x10_1).f0), .int .i64 ((rd_T55 l0 x10_1).f1), .int .i64 ((rd_T55 l0 x10_1).f2), .int .i64 ((rd_T55 l0 x10_1).f3), .int .i64 ((rd_T55 l0 x10_1).f4), .int .i64 x128005_1, .int .i64 x128006_1, .int .i64 x128007_1, .int .i64 x128008_1]) ?_ 5 _ rfl; (with_reducible repeat (first | refine blk_drewN ?_ _ | refine blk_drew ?_ | refine blk_alloc ?_ _)); refine blk_put (cs := #[.int .i64 ((rd_T55 l0 x10_1).f0), .int .i64 ((rd_T55 l0 x10_1).f1), .int .i64 ((rd_T55 l0 x10_1).f2), .int .i64 ((rd_T55 l0 x10_1).f3), .int .i64 x128004_1, .int .i64 x128005_1, .int .i64 x128006_1, .int .i64 x128007_1, .int .i64 x128008_1]) ?_ 4 _ rfl; (with_reducible repeat (first | refine blk_drewN ?_ _ | refine blk_drew ?_ | refine blk_alloc ?_ _)); refine blk_put (cs := #[.int .i64 ((rd_T55 l0 x10_1).f0), .int .i64 ((rd_T55 l0 x10_1).f1), .int .i64 ((rd_T55 l0 x10_1).f2), .int .i64 x128003_1, .int .i64 x128004_1, .int .i64 x128005_1, .int .i64 x128006_1, .int .i64 x128007_1, .int .i64 x128008_1]) ?_ 3 _ rfl; (with_reducible repeat (first | refine blk_drewN ?_ _ | refine blk_drew ?_ | refine blk_alloc ?_ _)); refine blk_put (cs := #[.int .i64 ((rd_T55 l0 x10_1).f0), .int .i64 ((rd_T55 l0 x10_1).f1), .int .i64 x128002_1, .int .i64 x128003_1, .int .i64 x128004_1, .int .i64 x128005_1, .int .i64 x128006_1, .int .i64 x128007_1, .int .i64 x128008_1]) ?_ 2 _ rfl; (with_reducible repeat (first | refine blk_drewN ?_ _ | refine blk_drew ?_ | refine blk_alloc ?_ _)); refine blk_put (cs := #[.int .i64 ((rd_T55 l0 x10_1).f0), .int .i64 x128001_1, .int .i64 x128002_1, .int .i64 x128003_1, .int .i64 x128004_1, .int .i64 x128005_1, .int .i64 x128006_1, .int .i64 x128007_1, .int .i64 x128008_1]) ?_ 1 _ rfl; (with_reducible repeat (first | refine blk_drewN ?_ _ | refine blk_drew ?_ | refine blk_alloc ?_ _)); refine blk_put (cs := #[.int .i64 x128000_1, .int .i64 x128001_1, .int .i64 x128002_1, .int .i64 x128003_1, .int .i64 x128004_1, .int .i64 x128005_1, .int .i64 x128006_1, .int .i64 x128007_1, .int .i64 x128008_1]) ?_ 0 _ rfl; (with_reducible repeat (first | refine blk_drewN ?_ _ | refine blk_drew ?_ | refine blk_alloc ?_ _)); exact BK127.out⟩, ⟨by repeat (first | (with_reducible first | exact HB.out | apply below_alloc | apply pw_below_drewN | apply below_drew1 | refine below_set ?_ GE127.out | refine below_set ?_ GE129.out) | exact HB.out)⟩⟩
                      · rw [if_neg c20] at H
                        have c20b0 : (((rd_T55 l0 x10_1).f8) == ((rd_T55 l0 x10_1).f2)) = false := beq_eq_false_iff_ne.mpr c20
                        have c20b1 : (((rd_T55 l0 x10_1).f8) != ((rd_T55 l0 x10_1).f2)) = true := bne_iff_ne.mpr c20
                        obtain rfl := Option.some.inj H
                        have hnb32 := NB129_127.out
                        have hnc32 := NB127_129.out
                        have hcz33_0 : wc.cell? ⟨gb129, 0, none⟩ = some (.int .i64 ((rd_T55 l0 x10_1).f0)) := (blk_cell BK129.out 0).trans rfl
                        have hcz33_1 : wc.cell? ⟨gb129, 1, none⟩ = some (.int .i64 ((rd_T55 l0 x10_1).f1)) := (blk_cell BK129.out 1).trans rfl
                        have hcz33_2 : wc.cell? ⟨gb129, 2, none⟩ = some (.int .i64 ((rd_T55 l0 x10_1).f2)) := (blk_cell BK129.out 2).trans rfl
                        have hcz33_3 : wc.cell? ⟨gb129, 3, none⟩ = some (.int .i64 ((rd_T55 l0 x10_1).f3)) := (blk_cell BK129.out 3).trans rfl
                        have hcz33_4 : wc.cell? ⟨gb129, 4, none⟩ = some (.int .i64 ((rd_T55 l0 x10_1).f4)) := (blk_cell BK129.out 4).trans rfl
                        have hcz33_5 : wc.cell? ⟨gb129, 5, none⟩ = some (.int .i64 ((rd_T55 l0 x10_1).f5)) := (blk_cell BK129.out 5).trans rfl
                        have hcz33_6 : wc.cell? ⟨gb129, 6, none⟩ = some (.int .i64 ((rd_T55 l0 x10_1).f6)) := (blk_cell BK129.out 6).trans rfl
                        have hcz33_7 : wc.cell? ⟨gb129, 7, none⟩ = some (.int .i64 ((rd_T55 l0 x10_1).f7)) := (blk_cell BK129.out 7).trans rfl
                        have hcz33_8 : wc.cell? ⟨gb129, 8, none⟩ = some (.int .i64 ((rd_T55 l0 x10_1).f8)) := (blk_cell BK129.out 8).trans rfl
                        have hfz33_0 := blk_frozen BK129.out 0
                        have hfz33_1 := blk_frozen BK129.out 1
                        have hfz33_2 := blk_frozen BK129.out 2
                        have hfz33_3 := blk_frozen BK129.out 3
                        have hfz33_4 := blk_frozen BK129.out 4
                        have hfz33_5 := blk_frozen BK129.out 5
                        have hfz33_6 := blk_frozen BK129.out 6
                        have hfz33_7 := blk_frozen BK129.out 7
                        have hfz33_8 := blk_frozen BK129.out 8
                        go_wp2
                        go_ret
                        exact ⟨by first | rfl | (simp [errW_none, errW_some] <;> rfl) | (simp [*, errW_none, errW_some] <;> rfl), by repeat (first | (with_reducible first | exact HB.out | apply below_alloc | apply pw_below_drewN | apply below_drew1 | refine below_set ?_ GE127.out | refine below_set ?_ GE129.out) | exact HB.out)⟩
                    · rw [if_neg c19] at H
                      have c19b0 : (((rd_T55 l0 x10_1).f0) == 8) = false := beq_eq_false_iff_ne.mpr c19
                      have c19b1 : (((rd_T55 l0 x10_1).f0) != 8) = true := bne_iff_ne.mpr c19
                      by_cases c34 : x4_1 = true
                      · subst c34
                        have H1 : (if x128001_1 = ((rd_T55 l0 x10_1).f1) then (if x128008_1 = ((rd_T55 l0 x10_1).f2) then (impl_Owned.l0 kj8 true l0 (l0.length : Int) (wrap64 (x10_1 + 1)) x128000_1 x128001_1 x128002_1 x128003_1 x128004_1 x128005_1 x128006_1 x128007_1 x128008_1) else (some false)) else (some false)) = some r := by rw [if_pos rfl] at H; exact H
                        clear H
                        have H := H1
                        clear H1
                        by_cases c35 : x128001_1 = ((rd_T55 l0 x10_1).f1)
                        · rw [if_pos c35] at H
                          have c35b0 : (x128001_1 == ((rd_T55 l0 x10_1).f1)) = true := beq_iff_eq.mpr c35
                          have c35b1 : (x128001_1 != ((rd_T55 l0 x10_1).f1)) = false := bne_eq_false_iff_eq.mpr c35
                          clear c35
                          by_cases c36 : x128008_1 = ((rd_T55 l0 x10_1).f2)
                          · rw [if_pos c36] at H
                            have c36b0 : (x128008_1 == ((rd_T55 l0 x10_1).f2)) = true := beq_iff_eq.mpr c36
                            have c36b1 : (x128008_1 != ((rd_T55 l0 x10_1).f2)) = false := bne_eq_false_iff_eq.mpr c36
                            clear c36
                            have H' := Aside0.mk H
                            clear H
                            have hnb37 := NB129_127.out
                            have hnc37 := NB127_129.out
                            have hcz38_0 : wc.cell? ⟨gb129, 0, none⟩ = some (.int .i64 ((rd_T55 l0 x10_1).f0)) := (blk_cell BK129.out 0).trans rfl
                            have hcz38_1 : wc.cell? ⟨gb129, 1, none⟩ = some (.int .i64 ((rd_T55 l0 x10_1).f1)) := (blk_cell BK129.out 1).trans rfl
                            have hcz38_2 : wc.cell? ⟨gb129, 2, none⟩ = some (.int .i64 ((rd_T55 l0 x10_1).f2)) := (blk_cell BK129.out 2).trans rfl
                            have hcz38_3 : wc.cell? ⟨gb129, 3, none⟩ = some (.int .i64 ((rd_T55 l0 x10_1).f3)) := (blk_cell BK129.out 3).trans rfl
                            have hcz38_4 : wc.cell? ⟨gb129, 4, none⟩ = some (.int .i64 ((rd_T55 l0 x10_1).f4)) := (blk_cell BK129.out 4).trans rfl
                            have hcz38_5 : wc.cell? ⟨gb129, 5, none⟩ = some (.int .i64 ((rd_T55 l0 x10_1).f5)) := (blk_cell BK129.out 5).trans rfl
                            have hcz38_6 : wc.cell? ⟨gb129, 6, none⟩ = some (.int .i64 ((rd_T55 l0 x10_1).f6)) := (blk_cell BK129.out 6).trans rfl
                            have hcz38_7 : wc.cell? ⟨gb129, 7, none⟩ = some (.int .i64 ((rd_T55 l0 x10_1).f7)) := (blk_cell BK129.out 7).trans rfl
                            have hcz38_8 : wc.cell? ⟨gb129, 8, none⟩ = some (.int .i64 ((rd_T55 l0 x10_1).f8)) := (blk_cell BK129.out 8).trans rfl
                            have hfz38_0 := blk_frozen BK129.out 0
                            have hfz38_1 := blk_frozen BK129.out 1
                            have hfz38_2 := blk_frozen BK129.out 2
                            have hfz38_3 := blk_frozen BK129.out 3
                            have hfz38_4 := blk_frozen BK129.out 4
                            have hfz38_5 := blk_frozen BK129.out 5
                            have hfz38_6 := blk_frozen BK129.out 6
                            have hfz38_7 := blk_frozen BK129.out 7
                            have hfz38_8 := blk_frozen BK129.out 8
                            have hcz39_0 : wc.cell? ⟨gb127, 0, none⟩ = some (.int .i64 x128000_1) := (blk_cell BK127.out 0).trans rfl
                            have hcz39_1 : wc.cell? ⟨gb127, 1, none⟩ = some (.int .i64 x128001_1) := (blk_cell BK127.out 1).trans rfl
                            have hcz39_2 : wc.cell? ⟨gb127, 2, none⟩ = some (.int .i64 x128002_1) := (blk_cell BK127.out 2).trans rfl
                            have hcz39_3 : wc.cell? ⟨gb127, 3, none⟩ = some (.int .i64 x128003_1) := (blk_cell BK127.out 3).trans rfl
                            have hcz39_4 : wc.cell? ⟨gb127, 4, none⟩ = some (.int .i64 x128004_1) := (blk_cell BK127.out 4).trans rfl
                            have hcz39_5 : wc.cell? ⟨gb127, 5, none⟩ = some (.int .i64 x128005_1) := (blk_cell BK127.out 5).trans rfl
                            have hcz39_6 : wc.cell? ⟨gb127, 6, none⟩ = some (.int .i64 x128006_1) := (blk_cell BK127.out 6).trans rfl
                            have hcz39_7 : wc.cell? ⟨gb127, 7, none⟩ = some (.int .i64 x128007_1) := (blk_cell BK127.out 7).trans rfl
                            have hcz39_8 : wc.cell? ⟨gb127, 8, none⟩ = some (.int .i64 x128008_1) := (blk_cell BK127.out 8).trans rfl
                            have hfz39_0 := blk_frozen BK127.out 0
                            have hfz39_1 := blk_frozen BK127.out 1
                            have hfz39_2 := blk_frozen BK127.out 2
                            have hfz39_3 := blk_frozen BK127.out 3
                            have hfz39_4 := blk_frozen BK127.out 4
                            have hfz39_5 := blk_frozen BK127.out 5
                            have hfz39_6 := blk_frozen BK127.out 6
                            have hfz39_7 := blk_frozen BK127.out 7
                            have hfz39_8 := blk_frozen BK127.out 8
                            go_wp2
                            go_roundg kj8
                            case measure => have := HK1.out; have := HJ8.out; omega
                            case rel => exact ⟨(true), (wrap64 (x10_1 + 1)), (x128000_1), (x128001_1), (x128002_1), (x128003_1), (x128004_1), (x128005_1), (x128006_1), (x128007_1), (x128008_1), (by first | rfl | (simp; done) | (simp [*]; done)), (by first | rfl | (simp; done) | (simp [*]; done)), H', ⟨by have := HK1.out; have := HJ8.out; omega⟩, ⟨by (with_reducible repeat (first | refine blk_drewN ?_ _ | refine blk_drew ?_ | refine blk_alloc ?_ _)); exact BK127.out⟩, ⟨by repeat (first | (with_reducible first | exact HB.out | apply below_alloc | apply pw_below_drewN | apply below_drew1 | refine below_set ?_ GE127.out | refine below_set ?_ GE129.out) | exact HB.out)⟩⟩
                          · rw [if_neg c36] at H
                            have c36b0 : (x128008_1 == ((rd_T55 l0 x10_1).f2)) = false := beq_eq_false_iff_ne.mpr c36
                            have c36b1 : (x128008_1 != ((rd_T55 l0 x10_1).f2)) = true := bne_iff_ne.mpr c36
                            obtain rfl := Option.some.inj H
                            have hnb40 := NB129_127.out
                            have hnc40 := NB127_129.out
                            have hcz41_0 : wc.cell? ⟨gb129, 0, none⟩ = some (.int .i64 ((rd_T55 l0 x10_1).f0)) := (blk_cell BK129.out 0).trans rfl
                            have hcz41_1 : wc.cell? ⟨gb129, 1, none⟩ = some (.int .i64 ((rd_T55 l0 x10_1).f1)) := (blk_cell BK129.out 1).trans rfl
                            have hcz41_2 : wc.cell? ⟨gb129, 2, none⟩ = some (.int .i64 ((rd_T55 l0 x10_1).f2)) := (blk_cell BK129.out 2).trans rfl
                            have hcz41_3 : wc.cell? ⟨gb129, 3, none⟩ = some (.int .i64 ((rd_T55 l0 x10_1).f3)) := (blk_cell BK129.out 3).trans rfl
                            have hcz41_4 : wc.cell? ⟨gb129, 4, none⟩ = some (.int .i64 ((rd_T55 l0 x10_1).f4)) := (blk_cell BK129.out 4).trans rfl
                            have hcz41_5 : wc.cell? ⟨gb129, 5, none⟩ = some (.int .i64 ((rd_T55 l0 x10_1).f5)) := (blk_cell BK129.out 5).trans rfl
                            have hcz41_6 : wc.cell? ⟨gb129, 6, none⟩ = some (.int .i64 ((rd_T55 l0 x10_1).f6)) := (blk_cell BK129.out 6).trans rfl
                            have hcz41_7 : wc.cell? ⟨gb129, 7, none⟩ = some (.int .i64 ((rd_T55 l0 x10_1).f7)) := (blk_cell BK129.out 7).trans rfl
                            have hcz41_8 : wc.cell? ⟨gb129, 8, none⟩ = some (.int .i64 ((rd_T55 l0 x10_1).f8)) := (blk_cell BK129.out 8).trans rfl
                            have hfz41_0 := blk_frozen BK129.out 0
                            have hfz41_1 := blk_frozen BK129.out 1
                            have hfz41_2 := blk_frozen BK129.out 2
                            have hfz41_3 := blk_frozen BK129.out 3
                            have hfz41_4 := blk_frozen BK129.out 4
                            have hfz41_5 := blk_frozen BK129.out 5
                            have hfz41_6 := blk_frozen BK129.out 6
                            have hfz41_7 := blk_frozen BK129.out 7
                            have hfz41_8 := blk_frozen BK129.out 8
                            have hcz42_0 : wc.cell? ⟨gb127, 0, none⟩ = some (.int .i64 x128000_1) := (blk_cell BK127.out 0).trans rfl
                            have hcz42_1 : wc.cell? ⟨gb127, 1, none⟩ = some (.int .i64 x128001_1) := (blk_cell BK127.out 1).trans rfl
                            have hcz42_2 : wc.cell? ⟨gb127, 2, none⟩ = some (.int .i64 x128002_1) := (blk_cell BK127.out 2).trans rfl
                            have hcz42_3 : wc.cell? ⟨gb127, 3, none⟩ = some (.int .i64 x128003_1) := (blk_cell BK127.out 3).trans rfl
                            have hcz42_4 : wc.cell? ⟨gb127, 4, none⟩ = some (.int .i64 x128004_1) := (blk_cell BK127.out 4).trans rfl
                            have hcz42_5 : wc.cell? ⟨gb127, 5, none⟩ = some (.int .i64 x128005_1) := (blk_cell BK127.out 5).trans rfl
                            have hcz42_6 : wc.cell? ⟨gb127, 6, none⟩ = some (.int .i64 x128006_1) := (blk_cell BK127.out 6).trans rfl
                            have hcz42_7 : wc.cell? ⟨gb127, 7, none⟩ = some (.int .i64 x128007_1) := (blk_cell BK127.out 7).trans rfl
                            have hcz42_8 : wc.cell? ⟨gb127, 8, none⟩ = some (.int .i64 x128008_1) := (blk_cell BK127.out 8).trans rfl
                            have hfz42_0 := blk_frozen BK127.out 0
                            have hfz42_1 := blk_frozen BK127.out 1
                            have hfz42_2 := blk_frozen BK127.out 2
                            have hfz42_3 := blk_frozen BK127.out 3
                            have hfz42_4 := blk_frozen BK127.out 4
                            have hfz42_5 := blk_frozen BK127.out 5
                            have hfz42_6 := blk_frozen BK127.out 6
                            have hfz42_7 := blk_frozen BK127.out 7
                            have hfz42_8 := blk_frozen BK127.out 8
                            go_wp2
                            go_ret
                            exact ⟨by first | rfl | (simp [errW_none, errW_some] <;> rfl) | (simp [*, errW_none, errW_some] <;> rfl), by repeat (first | (with_reducible first | exact HB.out | apply below_alloc | apply pw_below_drewN | apply below_drew1 | refine below_set ?_ GE127.out | refine below_set ?_ GE129.out) | exact HB.out)⟩
                        · rw [if_neg c35] at H
                          have c35b0 : (x128001_1 == ((rd_T55 l0 x10_1).f1)) = false := beq_eq_false_iff_ne.mpr c35
                          have c35b1 : (x128001_1 != ((rd_T55 l0 x10_1).f1)) = true := bne_iff_ne.mpr c35
                          obtain rfl := Option.some.inj H
                          have hnb43 := NB129_127.out
                          have hnc43 := NB127_129.out
                          have hcz44_0 : wc.cell? ⟨gb129, 0, none⟩ = some (.int .i64 ((rd_T55 l0 x10_1).f0)) := (blk_cell BK129.out 0).trans rfl
                          have hcz44_1 : wc.cell? ⟨gb129, 1, none⟩ = some (.int .i64 ((rd_T55 l0 x10_1).f1)) := (blk_cell BK129.out 1).trans rfl
                          have hcz44_2 : wc.cell? ⟨gb129, 2, none⟩ = some (.int .i64 ((rd_T55 l0 x10_1).f2)) := (blk_cell BK129.out 2).trans rfl
                          have hcz44_3 : wc.cell? ⟨gb129, 3, none⟩ = some (.int .i64 ((rd_T55 l0 x10_1).f3)) := (blk_cell BK129.out 3).trans rfl
                          have hcz44_4 : wc.cell? ⟨gb129, 4, none⟩ = some (.int .i64 ((rd_T55 l0 x10_1).f4)) := (blk_cell BK129.out 4).trans rfl
                          have hcz44_5 : wc.cell? ⟨gb129, 5, none⟩ = some (.int .i64 ((rd_T55 l0 x10_1).f5)) := (blk_cell BK129.out 5).trans rfl
                          have hcz44_6 : wc.cell? ⟨gb129, 6, none⟩ = some (.int .i64 ((rd_T55 l0 x10_1).f6)) := (blk_cell BK129.out 6).trans rfl
                          have hcz44_7 : wc.cell? ⟨gb129, 7, none⟩ = some (.int .i64 ((rd_T55 l0 x10_1).f7)) := (blk_cell BK129.out 7).trans rfl
                          have hcz44_8 : wc.cell? ⟨gb129, 8, none⟩ = some (.int .i64 ((rd_T55 l0 x10_1).f8)) := (blk_cell BK129.out 8).trans rfl
                          have hfz44_0 := blk_frozen BK129.out 0
                          have hfz44_1 := blk_frozen BK129.out 1
                          have hfz44_2 := blk_frozen BK129.out 2
                          have hfz44_3 := blk_frozen BK129.out 3
                          have hfz44_4 := blk_frozen BK129.out 4
                          have hfz44_5 := blk_frozen BK129.out 5
                          have hfz44_6 := blk_frozen BK129.out 6
                          have hfz44_7 := blk_frozen BK129.out 7
                          have hfz44_8 := blk_frozen BK129.out 8
                          have hcz45_0 : wc.cell? ⟨gb127, 0, none⟩ = some (.int .i64 x128000_1) := (blk_cell BK127.out 0).trans rfl
                          have hcz45_1 : wc.cell? ⟨gb127, 1, none⟩ = some (.int .i64 x128001_1) := (blk_cell BK127.out 1).trans rfl
                          have hcz45_2 : wc.cell? ⟨gb127, 2, none⟩ = some (.int .i64 x128002_1) := (blk_cell BK127.out 2).trans rfl
                          have hcz45_3 : wc.cell? ⟨gb127, 3, none⟩ = some (.int .i64 x128003_1) := (blk_cell BK127.out 3).trans rfl
                          have hcz45_4 : wc.cell? ⟨gb127, 4, none⟩ = some (.int .i64 x128004_1) := (blk_cell BK127.out 4).trans rfl
                          have hcz45_5 : wc.cell? ⟨gb127, 5, none⟩ = some (.int .i64 x128005_1) := (blk_cell BK127.out 5).trans rfl
                          have hcz45_6 : wc.cell? ⟨gb127, 6, none⟩ = some (.int .i64 x128006_1) := (blk_cell BK127.out 6).trans rfl
                          have hcz45_7 : wc.cell? ⟨gb127, 7, none⟩ = some (.int .i64 x128007_1) := (blk_cell BK127.out 7).trans rfl
                          have hcz45_8 : wc.cell? ⟨gb127, 8, none⟩ = some (.int .i64 x128008_1) := (blk_cell BK127.out 8).trans rfl
                          have hfz45_0 := blk_frozen BK127.out 0
                          have hfz45_1 := blk_frozen BK127.out 1
                          have hfz45_2 := blk_frozen BK127.out 2
                          have hfz45_3 := blk_frozen BK127.out 3
                          have hfz45_4 := blk_frozen BK127.out 4
                          have hfz45_5 := blk_frozen BK127.out 5
                          have hfz45_6 := blk_frozen BK127.out 6
                          have hfz45_7 := blk_frozen BK127.out 7
                          have hfz45_8 := blk_frozen BK127.out 8
                          go_wp2
                          go_ret
                          exact ⟨by first | rfl | (simp [errW_none, errW_some] <;> rfl) | (simp [*, errW_none, errW_some] <;> rfl), by repeat (first | (with_reducible first | exact HB.out | apply below_alloc | apply pw_below_drewN | apply below_drew1 | refine below_set ?_ GE127.out | refine below_set ?_ GE129.out) | exact HB.out)⟩
                      · replace c34 := Bool.eq_false_iff.mpr c34
                        subst c34
                        have H1 : (some false) = some r := by rw [if_neg (show ¬ (false = true) by decide)] at H; exact H
                        clear H
                        have H := H1
                        clear H1
                        obtain rfl := Option.some.inj H
                        have hnb46 := NB129_127.out
                        have hnc46 := NB127_129.out
                        have hcz47_0 : wc.cell? ⟨gb129, 0, none⟩ = some (.int .i64 ((rd_T55 l0 x10_1).f0)) := (blk_cell BK129.out 0).trans rfl
                        have hcz47_1 : wc.cell? ⟨gb129, 1, none⟩ = some (.int .i64 ((rd_T55 l0 x10_1).f1)) := (blk_cell BK129.out 1).trans rfl
                        have hcz47_2 : wc.cell? ⟨gb129, 2, none⟩ = some (.int .i64 ((rd_T55 l0 x10_1).f2)) := (blk_cell BK129.out 2).trans rfl
                        have hcz47_3 : wc.cell? ⟨gb129, 3, none⟩ = some (.int .i64 ((rd_T55 l0 x10_1).f3)) := (blk_cell BK129.out 3).trans rfl
                        have hcz47_4 : wc.cell? ⟨gb129, 4, none⟩ = some (.int .i64 ((rd_T55 l0 x10_1).f4)) := (blk_cell BK129.out 4).trans rfl
                        have hcz47_5 : wc.cell? ⟨gb129, 5, none⟩ = some (.int .i64 ((rd_T55 l0 x10_1).f5)) := (blk_cell BK129.out 5).trans rfl
                        have hcz47_6 : wc.cell? ⟨gb129, 6, none⟩ = some (.int .i64 ((rd_T55 l0 x10_1).f6)) := (blk_cell BK129.out 6).trans rfl
                        have hcz47_7 : wc.cell? ⟨gb129, 7, none⟩ = some (.int .i64 ((rd_T55 l0 x10_1).f7)) := (blk_cell BK129.out 7).trans rfl
                        have hcz47_8 : wc.cell? ⟨gb129, 8, none⟩ = some (.int .i64 ((rd_T55 l0 x10_1).f8)) := (blk_cell BK129.out 8).trans rfl
                        have hfz47_0 := blk_frozen BK129.out 0
                        have hfz47_1 := blk_frozen BK129.out 1
                        have hfz47_2 := blk_frozen BK129.out 2
                        have hfz47_3 := blk_frozen BK129.out 3
                        have hfz47_4 := blk_frozen BK129.out 4
                        have hfz47_5 := blk_frozen BK129.out 5
                        have hfz47_6 := blk_frozen BK129.out 6
                        have hfz47_7 := blk_frozen BK129.out 7
                        have hfz47_8 := blk_frozen BK129.out 8
                        go_wp2
                        go_ret
                        exact ⟨by first | rfl | (simp [errW_none, errW_some] <;> rfl) | (simp [*, errW_none, errW_some] <;> rfl), by repeat (first | (with_reducible first | exact HB.out | apply below_alloc | apply pw_below_drewN | apply below_drew1 | refine below_set ?_ GE127.out | refine below_set ?_ GE129.out) | exact HB.out)⟩
            · replace c8 := Bool.eq_false_iff.mpr c8
              subst c8
              have H1 : (impl_Owned.l0 k1 x4_1 l0 (l0.length : Int) (wrap64 (x10_1 + 1)) x128000_1 x128001_1 x128002_1 x128003_1 x128004_1 x128005_1 x128006_1 x128007_1 x128008_1) = some r := by rw [if_neg (show ¬ (false = true) by decide)] at H; exact H
              clear H
              have H := H1
              clear H1
              have H' := Aside0.mk H
              clear H
              have p128 : 0 ≤ (x10_1 : Int) := of_decide_eq_true (by first | (with_reducible assumption) | assumption)
              have q128 : x10_1 < (l0.length : Int) := of_decide_eq_true (by first | (with_reducible assumption) | assumption)
              obtain ⟨ad128, e128, hx128_0, hx128_1, hx128_2, hx128_3, hx128_4, hx128_5, hx128_6, hx128_7, hx128_8⟩ := at_T55 HR0.out x10_1 p128 q128
              cases e128
              replace hx128_0 := (HB.out.cell (World.block_lt_of_cell? w _ hx128_0)).trans hx128_0
              replace hx128_1 := (HB.out.cell (World.block_lt_of_cell? w _ hx128_1)).trans hx128_1
              replace hx128_2 := (HB.out.cell (World.block_lt_of_cell? w _ hx128_2)).trans hx128_2
              replace hx128_3 := (HB.out.cell (World.block_lt_of_cell? w _ hx128_3)).trans hx128_3
              replace hx128_4 := (HB.out.cell (World.block_lt_of_cell? w _ hx128_4)).trans hx128_4
              replace hx128_5 := (HB.out.cell (World.block_lt_of_cell? w _ hx128_5)).trans hx128_5
              replace hx128_6 := (HB.out.cell (World.block_lt_of_cell? w _ hx128_6)).trans hx128_6
              replace hx128_7 := (HB.out.cell (World.block_lt_of_cell? w _ hx128_7)).trans hx128_7
              replace hx128_8 := (HB.out.cell (World.block_lt_of_cell? w _ hx128_8)).trans hx128_8
              replace p128 := eq_true p128
              replace q128 := eq_true q128
              go_wp2_with (first | ((with_reducible refine gate_dst (N := 6) rfl ?_); refine box_event ?hg (N := 6) ?hd (cs := #[.int .i64 0, .int .i64 0, .int .i64 0, .int .i64 0, .int .i64 0, .int .i64 0, .int .i64 0, .int .i64 0, .int .i64 0]) (t := 55) ?hr ?_; (case hd => rfl); (case hg => rfl); (case hr => first | (go_simp; done) | (go_simp; rfl)); intro gb129 hg w48 hbox hb; have n0_ := Aside0.mk (blk_below (g := gb127) (o := .cells #[.int .i64 x128000_1, .int .i64 x128001_1, .int .i64 x128002_1, .int .i64 x128003_1, .int .i64 x128004_1, .int .i64 x128005_1, .int .i64 x128006_1, .int .i64 x128007_1, .int .i64 x128008_1] 55 (0, 0)) (by (with_reducible repeat (first | refine blk_drewN ?_ _ | refine blk_drew ?_ | refine blk_alloc ?_ _)); exact BK127.out) hb); have n1_ := Aside0.mk (below_step (by repeat (first | (with_reducible first | exact HB.out | apply below_alloc | apply pw_below_drewN | apply below_drew1 | refine below_set ?_ GE127.out) | exact HB.out)) hb); have n2_ := Aside0.mk (hbox); have n3_ := Aside0.mk ((by rw [hg]; exact (below_size (by repeat (first | (with_reducible first | exact HB.out | apply below_alloc | apply pw_below_drewN | apply below_drew1 | refine below_set ?_ GE127.out) | exact HB.out))) : w.heap.size ≤ gb129)); have n4_ := Aside0.mk ((by rw [hg]; exact (below_size (by repeat (first | (with_reducible first | exact HB.out | apply below_alloc | apply pw_below_drewN | apply below_drew1 | refine below_set ?_ GE127.out) | exact HB.out))) : w.heap.size ≤ gb129)); have n5_ := Aside0.mk ((by rw [hg]; exact Nat.ne_of_lt (blk_lt (g := gb127) (o := .cells #[.int .i64 x128000_1, .int .i64 x128001_1, .int .i64 x128002_1, .int .i64 x128003_1, .int .i64 x128004_1, .int .i64 x128005_1, .int .i64 x128006_1, .int .i64 x128007_1, .int .i64 x128008_1] 55 (0, 0)) (by (with_reducible repeat (first | refine blk_drewN ?_ _ | refine blk_drew ?_ | refine blk_alloc ?_ _)); exact BK127.out)) : gb127 ≠ gb129)); have n6_ := Aside0.mk ((by rw [hg]; exact Nat.ne_of_gt (blk_lt (g := gb127) (o := .cells #[.int .i64 x128000_1, .int .i64 x128001_1, .int .i64 x128002_1, .int .i64 x128003_1, .int .i64 x128004_1, .int .i64 x128005_1, .int .i64 x128006_1, .int .i64 x128007_1, .int .i64 x128008_1] 55 (0, 0)) (by (with_reducible repeat (first | refine blk_drewN ?_ _ | refine blk_drew ?_ | refine blk_alloc ?_ _)); exact BK127.out)) : gb129 ≠ gb127)); clear BK127; clear HB; have BK127 := n0_; have HB := n1_; have BK129 := n2_; have GW129 := n3_; have GE129 := n4_; have NB127_129 := n5_; have NB129_127 := n6_; clear n0_ n1_ n2_ n3_ n4_ n5_ n6_; clear hb hbox hg; have hnb49 := NB129_127.out; have hnc49 := NB127_129.out; have hcz50_0 : w48.cell? ⟨gb129, 0, none⟩ = some (.int .i64 0) := (blk_cell BK129.out 0).trans rfl; have hcz50_1 : w48.cell? ⟨gb129, 1, none⟩ = some (.int .i64 0) := (blk_cell BK129.out 1).trans rfl; have hcz50_2 : w48.cell? ⟨gb129, 2, none⟩ = some (.int .i64 0) := (blk_cell BK129.out 2).trans rfl; have hcz50_3 : w48.cell? ⟨gb129, 3, none⟩ = some (.int .i64 0) := (blk_cell BK129.out 3).trans rfl; have hcz50_4 : w48.cell? ⟨gb129, 4, none⟩ = some (.int .i64 0) := (blk_cell BK129.out 4).trans rfl; have hcz50_5 : w48.cell? ⟨gb129, 5, none⟩ = some (.int .i64 0) := (blk_cell BK129.out 5).trans rfl; have hcz50_6 : w48.cell? ⟨gb129, 6, none⟩ = some (.int .i64 0) := (blk_cell BK129.out 6).trans rfl; have hcz50_7 : w48.cell? ⟨gb129, 7, none⟩ = some (.int .i64 0) := (blk_cell BK129.out 7).trans rfl; have hcz50_8 : w48.cell? ⟨gb129, 8, none⟩ = some (.int .i64 0) := (blk_cell BK129.out 8).trans rfl; have hfz50_0 := blk_frozen BK129.out 0; have hfz50_1 := blk_frozen BK129.out 1; have hfz50_2 := blk_frozen BK129.out 2; have hfz50_3 := blk_frozen BK129.out 3; have hfz50_4 := blk_frozen BK129.out 4; have hfz50_5 := blk_frozen BK129.out 5; have hfz50_6 := blk_frozen BK129.out 6; have hfz50_7 := blk_frozen BK129.out 7; have hfz50_8 := blk_frozen BK129.out 8) | ((with_reducible refine gate_callee (f := 32) rfl ?_); refine goesL_ (some 16) rfl rfl Try.func32 (by kernel_rfl) rfl #[.int .i64 ((rd_T55 l0 x10_1).f0), .int .i64 1, .int .i64 8] rfl (by (try simp only [List.map_toArray, List.map_cons, List.map_nil]); first | done | rfl | (simp only [List.length_drop, List.length_take]; rfl)) ?_; (with_reducible refine (impl_isIn.calls ((rd_T55 l0 x10_1).f0) 1 8 false _ A7.out).mono ?_); rintro e w' ⟨rfl, ⟨nd, rfl⟩⟩; refine ⟨_, rfl, ?_⟩))
              go_roundg k1
              case measure => have := HK1.out; omega
              case rel => exact ⟨(x4_1), (wrap64 (x10_1 + 1)), (x128000_1), (x128001_1), (x128002_1), (x128003_1), (x128004_1), (x128005_1), (x128006_1), (x128007_1), (x128008_1), (by first | rfl | (simp; done) | (simp [*]; done)), (by first | rfl | (simp; done) | (simp [*]; done)), H', ⟨by have := HK1.out; omega⟩, ⟨by (with_reducible repeat (first | refine blk_drewN ?_ _ | refine blk_drew ?_ | refine blk_alloc ?_ _)); refine blk_far ?_ NB127_129.out _; (with_reducible repeat (first | refine blk_drewN ?_ _ | refine blk_drew ?_ | refine blk_alloc ?_ _)); refine blk_far ?_ NB127_129.out _; (with_reducible repeat (first | refine blk_drewN ?_ _ | refine blk_drew ?_ | refine blk_alloc ?_ _)); refine blk_far ?_ NB127_129.out _; (with_reducible repeat (first | refine blk_drewN ?_ _ | refine blk_drew ?_ | refine blk_alloc ?_ _)); refine blk_far ?_ NB127_129.out _; (with_reducible repeat (first | refine blk_drewN ?_ _ | refine blk_drew ?_ | refine blk_alloc ?_ _)); refine blk_far ?_ NB127_129.out _; (with_reducible repeat (first | refine blk_drewN ?_ _ | refine blk_drew ?_ | refine blk_alloc ?_ _)); refine blk_far ?_ NB127_129.out _; (with_reducible repeat (first | refine blk_drewN ?_ _ | refine blk_drew ?_ | refine blk_alloc ?_ _)); refine blk_far ?_ NB127_129.out _; (with_reducible repeat (first | refine blk_drewN ?_ _ | refine blk_drew ?_ | refine blk_alloc ?_ _)); refine blk_far ?_ NB127_129.out _; (with_reducible repeat (first | refine blk_drewN ?_ _ | refine blk_drew ?_ | refine blk_alloc ?_ _)); refine blk_far ?_ NB127_129.out _; (with_reducible repeat (first | refine blk_drewN ?_ _ | refine blk_drew ?_ | refine blk_alloc ?_ _)); exact BK127.out⟩, ⟨by repeat (first | (with_reducible first | exact HB.out | apply below_alloc | apply pw_below_drewN | apply below_drew1 | refine below_set ?_ GE127.out | refine below_set ?_ GE129.out) | exact HB.out)⟩⟩
          · rw [if_neg c6] at H
            exact absurd H (by simp)
        · rw [if_neg c5] at H
          exact absurd H (by simp)
      · rw [if_neg c4] at H
        have c4b0 : decide (x10_1 < (l0.length : Int)) = false := decide_eq_false c4
        clear c4
        obtain rfl := Option.some.inj H
        go_wp2
        go_ret
        exact ⟨by first | rfl | (simp [errW_none, errW_some] <;> rfl) | (simp [*, errW_none, errW_some] <;> rfl), by repeat (first | (with_reducible first | exact HB.out | apply below_alloc | apply pw_below_drewN | apply below_drew1 | refine below_set ?_ GE127.out) | exact HB.out)⟩

/-! ### laws_FnExactOwned: function 6 -/
def laws_FnExactOwned.f (k : Nat) (l0 : List (S57)) : Option (Bool) := (laws_szNoteS.f l0 1048576).bind fun t131 => (if t131 < 0 then (some true) else ((laws_toNoteS.f k l0).bind fun t132 => ((spec_Owned.f k t132).bind fun t135 => ((laws_toNoteS.f k l0).bind fun t136 => ((impl_Owned.f k t136).bind fun t139 => (if (t139 != t135) = true then (some false) else ((laws_toNoteS.f k l0).bind fun t140 => ((laws_eqNoteS.f k t136 t140).bind fun t143 => (if t143 = true then (some true) else (some false))))))))))
theorem laws_FnExactOwned.mono : ∀ a0 k, LeO (laws_FnExactOwned.f k a0) (laws_FnExactOwned.f (k + 1) a0) := by
  intro a0 k
  unfold laws_FnExactOwned.f
  repeat' first
      | (with_reducible exact impl_Owned.mono _ _)
      | (with_reducible exact laws_eqNoteS.mono _ _ _)
      | (with_reducible exact laws_toNoteS.mono _ _)
      | (with_reducible exact spec_Owned.mono _ _)
      | (with_reducible exact LeO.refl _)
      | (with_reducible exact LeO.none _)
      | (with_reducible refine LeO.ite ?_ ?_)
      | (with_reducible refine LeO.bind ?_ (fun _ => ?_))
      | exact impl_Owned.mono _ _
      | exact laws_eqNoteS.mono _ _ _
      | exact laws_toNoteS.mono _ _
      | exact spec_Owned.mono _ _
      | exact LeO.none _
      | refine LeO.ite ?_ ?_
      | refine LeO.bind ?_ (fun _ => ?_)
set_option maxHeartbeats 8000000 in
set_option maxRecDepth 100000 in
theorem laws_FnExactOwned.calls (k : Nat) (A0 : Option Addr) (c0 : Nat) (l0 : List (S57)) (r : Bool) (w : World) (hr0 : Kd.C k57 w A0 l0.length l0) (hc0 : l0.length ≤ c0) (h : laws_FnExactOwned.f k l0 = some r) :
    Calls Try.prog 6 #[.slice A0 l0.length c0] w fun e w' => e = .returned (.bool r) ∧ Below w.heap.size w w' := by
  have HR0 := Aside0.mk hr0
  have HC0 := Aside0.mk hc0
  clear hr0 hc0
  have HB := Aside0.mk (Below.refl w.heap.size w)
  have H : ((laws_szNoteS.f l0 1048576).bind fun t131 => (if t131 < 0 then (some true) else ((laws_toNoteS.f k l0).bind fun t132 => ((spec_Owned.f k t132).bind fun t135 => ((laws_toNoteS.f k l0).bind fun t136 => ((impl_Owned.f k t136).bind fun t139 => (if (t139 != t135) = true then (some false) else ((laws_toNoteS.f k l0).bind fun t140 => ((laws_eqNoteS.f k t136 t140).bind fun t143 => (if t143 = true then (some true) else (some false))))))))))) = some r := h
  clear h
  replace H := Option.bind_eq_some_iff.mp H
  obtain ⟨t131, A20, H⟩ := H
  replace H : (if t131 < 0 then (some true) else ((laws_toNoteS.f k l0).bind fun t132 => ((spec_Owned.f k t132).bind fun t135 => ((laws_toNoteS.f k l0).bind fun t136 => ((impl_Owned.f k t136).bind fun t139 => (if (t139 != t135) = true then (some false) else ((laws_toNoteS.f k l0).bind fun t140 => ((laws_eqNoteS.f k t136 t140).bind fun t143 => (if t143 = true then (some true) else (some false)))))))))) = some r := H
  have A2 := Aside0.mk A20
  clear A20
  by_cases c3 : t131 < 0
  · rw [if_pos c3] at H
    have c3b0 : decide (t131 < 0) = true := decide_eq_true c3
    clear c3
    obtain rfl := Option.some.inj H
    go_enter Try.func6, Try.ntmps6
    go_wp2_with (first | ((with_reducible refine gate_callee (f := 16) rfl ?_); refine goesL_ (some 9) rfl rfl Try.func16 (by kernel_rfl) rfl #[.slice A0 l0.length c0, .int .i64 1048576] rfl (by (try simp only [List.map_toArray, List.map_cons, List.map_nil]); first | done | rfl | (simp only [List.length_drop, List.length_take]; rfl)) ?_; (with_reducible refine (laws_szNoteS.calls _ _ l0 1048576 t131 _ ?side1 ?side2 A2.out).mono ?_); (case side1 => repeat (first | exact HR0.out | (with_reducible refine Kd.C_alloc ?_ _) | (with_reducible refine Kd.C_drewN ?_ _) | (with_reducible refine Kd.C_drew ?_))); (case side2 => exact HC0.out); rintro e w' ⟨rfl, ⟨nd, rfl⟩⟩; refine ⟨_, rfl, ?_⟩))
    go_ret
    exact ⟨by first | rfl | (simp [errW_none, errW_some] <;> rfl) | (simp [*, errW_none, errW_some] <;> rfl), by repeat (first | (with_reducible first | exact HB.out | apply below_alloc | apply pw_below_drewN | apply below_drew1) | exact HB.out)⟩
  · rw [if_neg c3] at H
    have c3b0 : decide (t131 < 0) = false := decide_eq_false c3
    clear c3
    replace H := Option.bind_eq_some_iff.mp H
    obtain ⟨t132, A40, H⟩ := H
    replace H : ((spec_Owned.f k t132).bind fun t135 => ((laws_toNoteS.f k l0).bind fun t136 => ((impl_Owned.f k t136).bind fun t139 => (if (t139 != t135) = true then (some false) else ((laws_toNoteS.f k l0).bind fun t140 => ((laws_eqNoteS.f k t136 t140).bind fun t143 => (if t143 = true then (some true) else (some false)))))))) = some r := H
    have A4 := Aside0.mk A40
    clear A40
    replace H := Option.bind_eq_some_iff.mp H
    obtain ⟨t135, A50, H⟩ := H
    replace H : ((laws_toNoteS.f k l0).bind fun t136 => ((impl_Owned.f k t136).bind fun t139 => (if (t139 != t135) = true then (some false) else ((laws_toNoteS.f k l0).bind fun t140 => ((laws_eqNoteS.f k t136 t140).bind fun t143 => (if t143 = true then (some true) else (some false))))))) = some r := H
    have A5 := Aside0.mk A50
    clear A50
    replace H := Option.bind_eq_some_iff.mp H
    obtain ⟨t136, A60, H⟩ := H
    replace H : ((impl_Owned.f k t136).bind fun t139 => (if (t139 != t135) = true then (some false) else ((laws_toNoteS.f k l0).bind fun t140 => ((laws_eqNoteS.f k t136 t140).bind fun t143 => (if t143 = true then (some true) else (some false)))))) = some r := H
    have A6 := Aside0.mk A60
    clear A60
    replace H := Option.bind_eq_some_iff.mp H
    obtain ⟨t139, A70, H⟩ := H
    replace H : (if (t139 != t135) = true then (some false) else ((laws_toNoteS.f k l0).bind fun t140 => ((laws_eqNoteS.f k t136 t140).bind fun t143 => (if t143 = true then (some true) else (some false))))) = some r := H
    have A7 := Aside0.mk A70
    clear A70
    by_cases c8 : (t139 != t135) = true
    · rw [if_pos c8] at H
      have c8b0 : (t139 != t135) = true := c8
      (try (have c8b1 : decide (t139 = t135) = false := by simpa using c8))
      (try (have c8b2 : (t139 == t135) = false := by simpa using c8))
      (try (have c8b3 : ¬ (t139 = t135) := by simpa using c8))
      clear c8
      obtain rfl := Option.some.inj H
      go_enter Try.func6, Try.ntmps6
      go_wp2_with (first | ((with_reducible refine gate_callee (f := 16) rfl ?_); refine goesL_ (some 9) rfl rfl Try.func16 (by kernel_rfl) rfl #[.slice A0 l0.length c0, .int .i64 1048576] rfl (by (try simp only [List.map_toArray, List.map_cons, List.map_nil]); first | done | rfl | (simp only [List.length_drop, List.length_take]; rfl)) ?_; (with_reducible refine (laws_szNoteS.calls _ _ l0 1048576 t131 _ ?side1 ?side2 A2.out).mono ?_); (case side1 => repeat (first | exact HR0.out | (with_reducible refine Kd.C_alloc ?_ _) | (with_reducible refine Kd.C_drewN ?_ _) | (with_reducible refine Kd.C_drew ?_))); (case side2 => exact HC0.out); rintro e w' ⟨rfl, ⟨nd, rfl⟩⟩; refine ⟨_, rfl, ?_⟩) | ((with_reducible refine gate_callee (f := 18) rfl ?_); refine goesL_ (some 13) rfl rfl Try.func18 (by kernel_rfl) rfl #[.slice A0 l0.length c0] rfl (by (try simp only [List.map_toArray, List.map_cons, List.map_nil]); first | done | rfl | (simp only [List.length_drop, List.length_take]; rfl)) ?_; (with_reducible refine (laws_toNoteS.calls k _ _ l0 t132 _ ?side1 ?side2 A4.out).mono ?_); (case side1 => repeat (first | exact HR0.out | (with_reducible refine Kd.C_alloc ?_ _) | (with_reducible refine Kd.C_drewN ?_ _) | (with_reducible refine Kd.C_drew ?_))); (case side2 => exact HC0.out); rintro e w9 ⟨v133, rfl, ho0, hb⟩; refine ⟨_, rfl, ?_⟩; have n0_ := Aside0.mk (Kd.R_lower ho0 (below_size (by repeat (first | (with_reducible first | exact HB.out | apply below_alloc | apply pw_below_drewN | apply below_drew1) | exact HB.out)))); have n1_ := Aside0.mk (below_step (by repeat (first | (with_reducible first | exact HB.out | apply below_alloc | apply pw_below_drewN | apply below_drew1) | exact HB.out)) hb); clear HB; have HO134 := n0_; have HB := n1_; clear n0_ n1_; (try clear hb); (try clear hb2); (try clear hk); (try clear hi); (try clear ho0); obtain ⟨Ao10, co10, eo10⟩ := Kd.R_slice HO134.out; subst eo10) | ((with_reducible refine gate_callee (f := 21) rfl ?_); refine goesL_ (some 14) rfl rfl Try.func21 (by kernel_rfl) rfl #[.slice Ao10 t132.length co10] rfl (by (try simp only [List.map_toArray, List.map_cons, List.map_nil]); first | done | rfl | (simp only [List.length_drop, List.length_take]; rfl)) ?_; (with_reducible refine (spec_Owned.calls k _ _ t132 t135 _ ?side1 ?side2 A5.out).mono ?_); (case side1 => repeat (first | exact (Kd.R_reads' HO134.out).2.2 | (with_reducible refine Kd.C_alloc ?_ _) | (with_reducible refine Kd.C_drewN ?_ _) | (with_reducible refine Kd.C_drew ?_))); (case side2 => exact (Kd.R_reads' HO134.out).2.1); rintro e w11 ⟨rfl, hb⟩; refine ⟨_, rfl, ?_⟩; have n0_ := Aside0.mk (Kd.R_below (by (with_reducible repeat (first | apply Kd.R_alloc | apply Kd.R_drewN | apply Kd.R_drew)); exact HO134.out) hb); have n1_ := Aside0.mk (below_step (by repeat (first | (with_reducible first | exact HB.out | apply below_alloc | apply pw_below_drewN | apply below_drew1) | exact HB.out)) hb); clear HO134; clear HB; have HO134 := n0_; have HB := n1_; clear n0_ n1_; (try clear hb); (try clear hb2); (try clear hk); (try clear hi)) | ((with_reducible refine gate_callee (f := 18) rfl ?_); refine goesL_ (some 16) rfl rfl Try.func18 (by kernel_rfl) rfl #[.slice A0 l0.length c0] rfl (by (try simp only [List.map_toArray, List.map_cons, List.map_nil]); first | done | rfl | (simp only [List.length_drop, List.length_take]; rfl)) ?_; (with_reducible refine (laws_toNoteS.calls k _ _ l0 t136 _ ?side1 ?side2 A6.out).mono ?_); (case side1 => repeat (first | exact (Kd.C_below HR0.out HB.out) | (with_reducible refine Kd.C_alloc ?_ _) | (with_reducible refine Kd.C_drewN ?_ _) | (with_reducible refine Kd.C_drew ?_))); (case side2 => exact HC0.out); rintro e w12 ⟨v137, rfl, ho0, hb⟩; refine ⟨_, rfl, ?_⟩; have n0_ := Aside0.mk (Kd.R_elder' (by (with_reducible repeat (first | apply Kd.R_alloc | apply Kd.R_drewN | apply Kd.R_drew)); exact HO134.out) (Kd.R_base ho0) hb); have n1_ := Aside0.mk (Kd.R_lower (Kd.R_new' ho0 (Kd.R_lt (by (with_reducible repeat (first | apply Kd.R_alloc | apply Kd.R_drewN | apply Kd.R_drew)); exact HO134.out))) (below_size (by repeat (first | (with_reducible first | exact HB.out | apply below_alloc | apply pw_below_drewN | apply below_drew1) | exact HB.out)))); have n2_ := Aside0.mk (below_step (by repeat (first | (with_reducible first | exact HB.out | apply below_alloc | apply pw_below_drewN | apply below_drew1) | exact HB.out)) hb); clear HO134; clear HB; have HO134 := n0_; have HO138 := n1_; have HB := n2_; clear n0_ n1_ n2_; (try clear hb); (try clear hb2); (try clear hk); (try clear hi); (try clear ho0); obtain ⟨Ao13, co13, eo13⟩ := Kd.R_slice HO138.out; subst eo13) | ((with_reducible refine gate_callee (f := 22) rfl ?_); refine goesL_ (some 18) rfl rfl Try.func22 (by kernel_rfl) rfl #[.slice Ao13 t136.length co13] rfl (by (try simp only [List.map_toArray, List.map_cons, List.map_nil]); first | done | rfl | (simp only [List.length_drop, List.length_take]; rfl)) ?_; (with_reducible refine (impl_Owned.calls k _ _ t136 t139 _ ?side1 ?side2 A7.out).mono ?_); (case side1 => repeat (first | exact (Kd.R_reads' HO138.out).2.2 | (with_reducible refine Kd.C_alloc ?_ _) | (with_reducible refine Kd.C_drewN ?_ _) | (with_reducible refine Kd.C_drew ?_))); (case side2 => exact (Kd.R_reads' HO138.out).2.1); rintro e w14 ⟨rfl, hb⟩; refine ⟨_, rfl, ?_⟩; have n0_ := Aside0.mk (Kd.R_below (by (with_reducible repeat (first | apply Kd.R_alloc | apply Kd.R_drewN | apply Kd.R_drew)); exact HO134.out) hb); have n1_ := Aside0.mk (Kd.R_below (by (with_reducible repeat (first | apply Kd.R_alloc | apply Kd.R_drewN | apply Kd.R_drew)); exact HO138.out) hb); have n2_ := Aside0.mk (below_step (by repeat (first | (with_reducible first | exact HB.out | apply below_alloc | apply pw_below_drewN | apply below_drew1) | exact HB.out)) hb); clear HO134; clear HO138; clear HB; have HO134 := n0_; have HO138 := n1_; have HB := n2_; clear n0_ n1_ n2_; (try clear hb); (try clear hb2); (try clear hk); (try clear hi)))
      go_ret
      exact ⟨by first | rfl | (simp [errW_none, errW_some] <;> rfl) | (simp [*, errW_none, errW_some] <;> rfl), by repeat (first | (with_reducible first | exact HB.out | apply below_alloc | apply pw_below_drewN | apply below_drew1) | exact HB.out)⟩
    · rw [if_neg c8] at H
      have c8b0 : (t139 != t135) = false := by simpa using c8
      (try (have c8b1 : decide (t139 = t135) = true := by simpa using c8))
      (try (have c8b2 : (t139 == t135) = true := by simpa using c8))
      clear c8
      replace H := Option.bind_eq_some_iff.mp H
      obtain ⟨t140, A150, H⟩ := H
      replace H : ((laws_eqNoteS.f k t136 t140).bind fun t143 => (if t143 = true then (some true) else (some false))) = some r := H
      have A15 := Aside0.mk A150
      clear A150
      replace H := Option.bind_eq_some_iff.mp H
      obtain ⟨t143, A160, H⟩ := H
      replace H : (if t143 = true then (some true) else (some false)) = some r := H
      have A16 := Aside0.mk A160
      clear A160
      by_cases c17 : t143 = true
      · subst c17
        have H1 : (some true) = some r := by rw [if_pos rfl] at H; exact H
        clear H
        have H := H1
        clear H1
        obtain rfl := Option.some.inj H
        go_enter Try.func6, Try.ntmps6
        go_wp2_with (first | ((with_reducible refine gate_callee (f := 16) rfl ?_); refine goesL_ (some 9) rfl rfl Try.func16 (by kernel_rfl) rfl #[.slice A0 l0.length c0, .int .i64 1048576] rfl (by (try simp only [List.map_toArray, List.map_cons, List.map_nil]); first | done | rfl | (simp only [List.length_drop, List.length_take]; rfl)) ?_; (with_reducible refine (laws_szNoteS.calls _ _ l0 1048576 t131 _ ?side1 ?side2 A2.out).mono ?_); (case side1 => repeat (first | exact HR0.out | (with_reducible refine Kd.C_alloc ?_ _) | (with_reducible refine Kd.C_drewN ?_ _) | (with_reducible refine Kd.C_drew ?_))); (case side2 => exact HC0.out); rintro e w' ⟨rfl, ⟨nd, rfl⟩⟩; refine ⟨_, rfl, ?_⟩) | ((with_reducible refine gate_callee (f := 18) rfl ?_); refine goesL_ (some 13) rfl rfl Try.func18 (by kernel_rfl) rfl #[.slice A0 l0.length c0] rfl (by (try simp only [List.map_toArray, List.map_cons, List.map_nil]); first | done | rfl | (simp only [List.length_drop, List.length_take]; rfl)) ?_; (with_reducible refine (laws_toNoteS.calls k _ _ l0 t132 _ ?side1 ?side2 A4.out).mono ?_); (case side1 => repeat (first | exact HR0.out | (with_reducible refine Kd.C_alloc ?_ _) | (with_reducible refine Kd.C_drewN ?_ _) | (with_reducible refine Kd.C_drew ?_))); (case side2 => exact HC0.out); rintro e w18 ⟨v133, rfl, ho0, hb⟩; refine ⟨_, rfl, ?_⟩; have n0_ := Aside0.mk (Kd.R_lower ho0 (below_size (by repeat (first | (with_reducible first | exact HB.out | apply below_alloc | apply pw_below_drewN | apply below_drew1) | exact HB.out)))); have n1_ := Aside0.mk (below_step (by repeat (first | (with_reducible first | exact HB.out | apply below_alloc | apply pw_below_drewN | apply below_drew1) | exact HB.out)) hb); clear HB; have HO134 := n0_; have HB := n1_; clear n0_ n1_; (try clear hb); (try clear hb2); (try clear hk); (try clear hi); (try clear ho0); obtain ⟨Ao19, co19, eo19⟩ := Kd.R_slice HO134.out; subst eo19) | ((with_reducible refine gate_callee (f := 21) rfl ?_); refine goesL_ (some 14) rfl rfl Try.func21 (by kernel_rfl) rfl #[.slice Ao19 t132.length co19] rfl (by (try simp only [List.map_toArray, List.map_cons, List.map_nil]); first | done | rfl | (simp only [List.length_drop, List.length_take]; rfl)) ?_; (with_reducible refine (spec_Owned.calls k _ _ t132 t135 _ ?side1 ?side2 A5.out).mono ?_); (case side1 => repeat (first | exact (Kd.R_reads' HO134.out).2.2 | (with_reducible refine Kd.C_alloc ?_ _) | (with_reducible refine Kd.C_drewN ?_ _) | (with_reducible refine Kd.C_drew ?_))); (case side2 => exact (Kd.R_reads' HO134.out).2.1); rintro e w20 ⟨rfl, hb⟩; refine ⟨_, rfl, ?_⟩; have n0_ := Aside0.mk (Kd.R_below (by (with_reducible repeat (first | apply Kd.R_alloc | apply Kd.R_drewN | apply Kd.R_drew)); exact HO134.out) hb); have n1_ := Aside0.mk (below_step (by repeat (first | (with_reducible first | exact HB.out | apply below_alloc | apply pw_below_drewN | apply below_drew1) | exact HB.out)) hb); clear HO134; clear HB; have HO134 := n0_; have HB := n1_; clear n0_ n1_; (try clear hb); (try clear hb2); (try clear hk); (try clear hi)) | ((with_reducible refine gate_callee (f := 18) rfl ?_); refine goesL_ (some 16) rfl rfl Try.func18 (by kernel_rfl) rfl #[.slice A0 l0.length c0] rfl (by (try simp only [List.map_toArray, List.map_cons, List.map_nil]); first | done | rfl | (simp only [List.length_drop, List.length_take]; rfl)) ?_; (with_reducible refine (laws_toNoteS.calls k _ _ l0 t136 _ ?side1 ?side2 A6.out).mono ?_); (case side1 => repeat (first | exact (Kd.C_below HR0.out HB.out) | (with_reducible refine Kd.C_alloc ?_ _) | (with_reducible refine Kd.C_drewN ?_ _) | (with_reducible refine Kd.C_drew ?_))); (case side2 => exact HC0.out); rintro e w21 ⟨v137, rfl, ho0, hb⟩; refine ⟨_, rfl, ?_⟩; have n0_ := Aside0.mk (Kd.R_elder' (by (with_reducible repeat (first | apply Kd.R_alloc | apply Kd.R_drewN | apply Kd.R_drew)); exact HO134.out) (Kd.R_base ho0) hb); have n1_ := Aside0.mk (Kd.R_lower (Kd.R_new' ho0 (Kd.R_lt (by (with_reducible repeat (first | apply Kd.R_alloc | apply Kd.R_drewN | apply Kd.R_drew)); exact HO134.out))) (below_size (by repeat (first | (with_reducible first | exact HB.out | apply below_alloc | apply pw_below_drewN | apply below_drew1) | exact HB.out)))); have n2_ := Aside0.mk (below_step (by repeat (first | (with_reducible first | exact HB.out | apply below_alloc | apply pw_below_drewN | apply below_drew1) | exact HB.out)) hb); clear HO134; clear HB; have HO134 := n0_; have HO138 := n1_; have HB := n2_; clear n0_ n1_ n2_; (try clear hb); (try clear hb2); (try clear hk); (try clear hi); (try clear ho0); obtain ⟨Ao22, co22, eo22⟩ := Kd.R_slice HO138.out; subst eo22) | ((with_reducible refine gate_callee (f := 22) rfl ?_); refine goesL_ (some 18) rfl rfl Try.func22 (by kernel_rfl) rfl #[.slice Ao22 t136.length co22] rfl (by (try simp only [List.map_toArray, List.map_cons, List.map_nil]); first | done | rfl | (simp only [List.length_drop, List.length_take]; rfl)) ?_; (with_reducible refine (impl_Owned.calls k _ _ t136 t139 _ ?side1 ?side2 A7.out).mono ?_); (case side1 => repeat (first | exact (Kd.R_reads' HO138.out).2.2 | (with_reducible refine Kd.C_alloc ?_ _) | (with_reducible refine Kd.C_drewN ?_ _) | (with_reducible refine Kd.C_drew ?_))); (case side2 => exact (Kd.R_reads' HO138.out).2.1); rintro e w23 ⟨rfl, hb⟩; refine ⟨_, rfl, ?_⟩; have n0_ := Aside0.mk (Kd.R_below (by (with_reducible repeat (first | apply Kd.R_alloc | apply Kd.R_drewN | apply Kd.R_drew)); exact HO134.out) hb); have n1_ := Aside0.mk (Kd.R_below (by (with_reducible repeat (first | apply Kd.R_alloc | apply Kd.R_drewN | apply Kd.R_drew)); exact HO138.out) hb); have n2_ := Aside0.mk (below_step (by repeat (first | (with_reducible first | exact HB.out | apply below_alloc | apply pw_below_drewN | apply below_drew1) | exact HB.out)) hb); clear HO134; clear HO138; clear HB; have HO134 := n0_; have HO138 := n1_; have HB := n2_; clear n0_ n1_ n2_; (try clear hb); (try clear hb2); (try clear hk); (try clear hi)) | ((with_reducible refine gate_callee (f := 18) rfl ?_); refine goesL_ (some 24) rfl rfl Try.func18 (by kernel_rfl) rfl #[.slice A0 l0.length c0] rfl (by (try simp only [List.map_toArray, List.map_cons, List.map_nil]); first | done | rfl | (simp only [List.length_drop, List.length_take]; rfl)) ?_; (with_reducible refine (laws_toNoteS.calls k _ _ l0 t140 _ ?side1 ?side2 A15.out).mono ?_); (case side1 => repeat (first | exact (Kd.C_below HR0.out HB.out) | (with_reducible refine Kd.C_alloc ?_ _) | (with_reducible refine Kd.C_drewN ?_ _) | (with_reducible refine Kd.C_drew ?_))); (case side2 => exact HC0.out); rintro e w24 ⟨v141, rfl, ho0, hb⟩; refine ⟨_, rfl, ?_⟩; have n0_ := Aside0.mk (Kd.R_elder' (by (with_reducible repeat (first | apply Kd.R_alloc | apply Kd.R_drewN | apply Kd.R_drew)); exact HO134.out) (Kd.R_base ho0) hb); have n1_ := Aside0.mk (Kd.R_elder' (by (with_reducible repeat (first | apply Kd.R_alloc | apply Kd.R_drewN | apply Kd.R_drew)); exact HO138.out) (Kd.R_base ho0) hb); have n2_ := Aside0.mk (Kd.R_lower (Kd.R_new' (Kd.R_new' ho0 (Kd.R_lt (by (with_reducible repeat (first | apply Kd.R_alloc | apply Kd.R_drewN | apply Kd.R_drew)); exact HO134.out))) (Kd.R_lt (by (with_reducible repeat (first | apply Kd.R_alloc | apply Kd.R_drewN | apply Kd.R_drew)); exact HO138.out))) (below_size (by repeat (first | (with_reducible first | exact HB.out | apply below_alloc | apply pw_below_drewN | apply below_drew1) | exact HB.out)))); have n3_ := Aside0.mk (below_step (by repeat (first | (with_reducible first | exact HB.out | apply below_alloc | apply pw_below_drewN | apply below_drew1) | exact HB.out)) hb); clear HO134; clear HO138; clear HB; have HO134 := n0_; have HO138 := n1_; have HO142 := n2_; have HB := n3_; clear n0_ n1_ n2_ n3_; (try clear hb); (try clear hb2); (try clear hk); (try clear hi); (try clear ho0); obtain ⟨Ao25, co25, eo25⟩ := Kd.R_slice HO142.out; subst eo25) | ((with_reducible refine gate_callee (f := 20) rfl ?_); refine goesL_ (some 25) rfl rfl Try.func20 (by kernel_rfl) rfl #[.slice Ao22 t136.length co22, .slice Ao25 t140.length co25] rfl (by (try simp only [List.map_toArray, List.map_cons, List.map_nil]); first | done | rfl | (simp only [List.length_drop, List.length_take]; rfl)) ?_; (with_reducible refine (laws_eqNoteS.calls k _ _ t136 _ _ t140 true _ ?side1 ?side2 ?side3 ?side4 A16.out).mono ?_); (case side1 => repeat (first | exact (Kd.R_reads' HO138.out).2.2 | (with_reducible refine Kd.C_alloc ?_ _) | (with_reducible refine Kd.C_drewN ?_ _) | (with_reducible refine Kd.C_drew ?_))); (case side2 => exact (Kd.R_reads' HO138.out).2.1); (case side3 => repeat (first | exact (Kd.R_reads' HO142.out).2.2 | (with_reducible refine Kd.C_alloc ?_ _) | (with_reducible refine Kd.C_drewN ?_ _) | (with_reducible refine Kd.C_drew ?_))); (case side4 => exact (Kd.R_reads' HO142.out).2.1); rintro e w26 ⟨rfl, hb⟩; refine ⟨_, rfl, ?_⟩; have n0_ := Aside0.mk (Kd.R_below (by (with_reducible repeat (first | apply Kd.R_alloc | apply Kd.R_drewN | apply Kd.R_drew)); exact HO134.out) hb); have n1_ := Aside0.mk (Kd.R_below (by (with_reducible repeat (first | apply Kd.R_alloc | apply Kd.R_drewN | apply Kd.R_drew)); exact HO138.out) hb); have n2_ := Aside0.mk (Kd.R_below (by (with_reducible repeat (first | apply Kd.R_alloc | apply Kd.R_drewN | apply Kd.R_drew)); exact HO142.out) hb); have n3_ := Aside0.mk (below_step (by repeat (first | (with_reducible first | exact HB.out | apply below_alloc | apply pw_below_drewN | apply below_drew1) | exact HB.out)) hb); clear HO134; clear HO138; clear HO142; clear HB; have HO134 := n0_; have HO138 := n1_; have HO142 := n2_; have HB := n3_; clear n0_ n1_ n2_ n3_; (try clear hb); (try clear hb2); (try clear hk); (try clear hi)))
        go_ret
        exact ⟨by first | rfl | (simp [errW_none, errW_some] <;> rfl) | (simp [*, errW_none, errW_some] <;> rfl), by repeat (first | (with_reducible first | exact HB.out | apply below_alloc | apply pw_below_drewN | apply below_drew1) | exact HB.out)⟩
      · replace c17 := Bool.eq_false_iff.mpr c17
        subst c17
        have H1 : (some false) = some r := by rw [if_neg (show ¬ (false = true) by decide)] at H; exact H
        clear H
        have H := H1
        clear H1
        obtain rfl := Option.some.inj H
        go_enter Try.func6, Try.ntmps6
        go_wp2_with (first | ((with_reducible refine gate_callee (f := 16) rfl ?_); refine goesL_ (some 9) rfl rfl Try.func16 (by kernel_rfl) rfl #[.slice A0 l0.length c0, .int .i64 1048576] rfl (by (try simp only [List.map_toArray, List.map_cons, List.map_nil]); first | done | rfl | (simp only [List.length_drop, List.length_take]; rfl)) ?_; (with_reducible refine (laws_szNoteS.calls _ _ l0 1048576 t131 _ ?side1 ?side2 A2.out).mono ?_); (case side1 => repeat (first | exact HR0.out | (with_reducible refine Kd.C_alloc ?_ _) | (with_reducible refine Kd.C_drewN ?_ _) | (with_reducible refine Kd.C_drew ?_))); (case side2 => exact HC0.out); rintro e w' ⟨rfl, ⟨nd, rfl⟩⟩; refine ⟨_, rfl, ?_⟩) | ((with_reducible refine gate_callee (f := 18) rfl ?_); refine goesL_ (some 13) rfl rfl Try.func18 (by kernel_rfl) rfl #[.slice A0 l0.length c0] rfl (by (try simp only [List.map_toArray, List.map_cons, List.map_nil]); first | done | rfl | (simp only [List.length_drop, List.length_take]; rfl)) ?_; (with_reducible refine (laws_toNoteS.calls k _ _ l0 t132 _ ?side1 ?side2 A4.out).mono ?_); (case side1 => repeat (first | exact HR0.out | (with_reducible refine Kd.C_alloc ?_ _) | (with_reducible refine Kd.C_drewN ?_ _) | (with_reducible refine Kd.C_drew ?_))); (case side2 => exact HC0.out); rintro e w27 ⟨v133, rfl, ho0, hb⟩; refine ⟨_, rfl, ?_⟩; have n0_ := Aside0.mk (Kd.R_lower ho0 (below_size (by repeat (first | (with_reducible first | exact HB.out | apply below_alloc | apply pw_below_drewN | apply below_drew1) | exact HB.out)))); have n1_ := Aside0.mk (below_step (by repeat (first | (with_reducible first | exact HB.out | apply below_alloc | apply pw_below_drewN | apply below_drew1) | exact HB.out)) hb); clear HB; have HO134 := n0_; have HB := n1_; clear n0_ n1_; (try clear hb); (try clear hb2); (try clear hk); (try clear hi); (try clear ho0); obtain ⟨Ao28, co28, eo28⟩ := Kd.R_slice HO134.out; subst eo28) | ((with_reducible refine gate_callee (f := 21) rfl ?_); refine goesL_ (some 14) rfl rfl Try.func21 (by kernel_rfl) rfl #[.slice Ao28 t132.length co28] rfl (by (try simp only [List.map_toArray, List.map_cons, List.map_nil]); first | done | rfl | (simp only [List.length_drop, List.length_take]; rfl)) ?_; (with_reducible refine (spec_Owned.calls k _ _ t132 t135 _ ?side1 ?side2 A5.out).mono ?_); (case side1 => repeat (first | exact (Kd.R_reads' HO134.out).2.2 | (with_reducible refine Kd.C_alloc ?_ _) | (with_reducible refine Kd.C_drewN ?_ _) | (with_reducible refine Kd.C_drew ?_))); (case side2 => exact (Kd.R_reads' HO134.out).2.1); rintro e w29 ⟨rfl, hb⟩; refine ⟨_, rfl, ?_⟩; have n0_ := Aside0.mk (Kd.R_below (by (with_reducible repeat (first | apply Kd.R_alloc | apply Kd.R_drewN | apply Kd.R_drew)); exact HO134.out) hb); have n1_ := Aside0.mk (below_step (by repeat (first | (with_reducible first | exact HB.out | apply below_alloc | apply pw_below_drewN | apply below_drew1) | exact HB.out)) hb); clear HO134; clear HB; have HO134 := n0_; have HB := n1_; clear n0_ n1_; (try clear hb); (try clear hb2); (try clear hk); (try clear hi)) | ((with_reducible refine gate_callee (f := 18) rfl ?_); refine goesL_ (some 16) rfl rfl Try.func18 (by kernel_rfl) rfl #[.slice A0 l0.length c0] rfl (by (try simp only [List.map_toArray, List.map_cons, List.map_nil]); first | done | rfl | (simp only [List.length_drop, List.length_take]; rfl)) ?_; (with_reducible refine (laws_toNoteS.calls k _ _ l0 t136 _ ?side1 ?side2 A6.out).mono ?_); (case side1 => repeat (first | exact (Kd.C_below HR0.out HB.out) | (with_reducible refine Kd.C_alloc ?_ _) | (with_reducible refine Kd.C_drewN ?_ _) | (with_reducible refine Kd.C_drew ?_))); (case side2 => exact HC0.out); rintro e w30 ⟨v137, rfl, ho0, hb⟩; refine ⟨_, rfl, ?_⟩; have n0_ := Aside0.mk (Kd.R_elder' (by (with_reducible repeat (first | apply Kd.R_alloc | apply Kd.R_drewN | apply Kd.R_drew)); exact HO134.out) (Kd.R_base ho0) hb); have n1_ := Aside0.mk (Kd.R_lower (Kd.R_new' ho0 (Kd.R_lt (by (with_reducible repeat (first | apply Kd.R_alloc | apply Kd.R_drewN | apply Kd.R_drew)); exact HO134.out))) (below_size (by repeat (first | (with_reducible first | exact HB.out | apply below_alloc | apply pw_below_drewN | apply below_drew1) | exact HB.out)))); have n2_ := Aside0.mk (below_step (by repeat (first | (with_reducible first | exact HB.out | apply below_alloc | apply pw_below_drewN | apply below_drew1) | exact HB.out)) hb); clear HO134; clear HB; have HO134 := n0_; have HO138 := n1_; have HB := n2_; clear n0_ n1_ n2_; (try clear hb); (try clear hb2); (try clear hk); (try clear hi); (try clear ho0); obtain ⟨Ao31, co31, eo31⟩ := Kd.R_slice HO138.out; subst eo31) | ((with_reducible refine gate_callee (f := 22) rfl ?_); refine goesL_ (some 18) rfl rfl Try.func22 (by kernel_rfl) rfl #[.slice Ao31 t136.length co31] rfl (by (try simp only [List.map_toArray, List.map_cons, List.map_nil]); first | done | rfl | (simp only [List.length_drop, List.length_take]; rfl)) ?_; (with_reducible refine (impl_Owned.calls k _ _ t136 t139 _ ?side1 ?side2 A7.out).mono ?_); (case side1 => repeat (first | exact (Kd.R_reads' HO138.out).2.2 | (with_reducible refine Kd.C_alloc ?_ _) | (with_reducible refine Kd.C_drewN ?_ _) | (with_reducible refine Kd.C_drew ?_))); (case side2 => exact (Kd.R_reads' HO138.out).2.1); rintro e w32 ⟨rfl, hb⟩; refine ⟨_, rfl, ?_⟩; have n0_ := Aside0.mk (Kd.R_below (by (with_reducible repeat (first | apply Kd.R_alloc | apply Kd.R_drewN | apply Kd.R_drew)); exact HO134.out) hb); have n1_ := Aside0.mk (Kd.R_below (by (with_reducible repeat (first | apply Kd.R_alloc | apply Kd.R_drewN | apply Kd.R_drew)); exact HO138.out) hb); have n2_ := Aside0.mk (below_step (by repeat (first | (with_reducible first | exact HB.out | apply below_alloc | apply pw_below_drewN | apply below_drew1) | exact HB.out)) hb); clear HO134; clear HO138; clear HB; have HO134 := n0_; have HO138 := n1_; have HB := n2_; clear n0_ n1_ n2_; (try clear hb); (try clear hb2); (try clear hk); (try clear hi)) | ((with_reducible refine gate_callee (f := 18) rfl ?_); refine goesL_ (some 24) rfl rfl Try.func18 (by kernel_rfl) rfl #[.slice A0 l0.length c0] rfl (by (try simp only [List.map_toArray, List.map_cons, List.map_nil]); first | done | rfl | (simp only [List.length_drop, List.length_take]; rfl)) ?_; (with_reducible refine (laws_toNoteS.calls k _ _ l0 t140 _ ?side1 ?side2 A15.out).mono ?_); (case side1 => repeat (first | exact (Kd.C_below HR0.out HB.out) | (with_reducible refine Kd.C_alloc ?_ _) | (with_reducible refine Kd.C_drewN ?_ _) | (with_reducible refine Kd.C_drew ?_))); (case side2 => exact HC0.out); rintro e w33 ⟨v141, rfl, ho0, hb⟩; refine ⟨_, rfl, ?_⟩; have n0_ := Aside0.mk (Kd.R_elder' (by (with_reducible repeat (first | apply Kd.R_alloc | apply Kd.R_drewN | apply Kd.R_drew)); exact HO134.out) (Kd.R_base ho0) hb); have n1_ := Aside0.mk (Kd.R_elder' (by (with_reducible repeat (first | apply Kd.R_alloc | apply Kd.R_drewN | apply Kd.R_drew)); exact HO138.out) (Kd.R_base ho0) hb); have n2_ := Aside0.mk (Kd.R_lower (Kd.R_new' (Kd.R_new' ho0 (Kd.R_lt (by (with_reducible repeat (first | apply Kd.R_alloc | apply Kd.R_drewN | apply Kd.R_drew)); exact HO134.out))) (Kd.R_lt (by (with_reducible repeat (first | apply Kd.R_alloc | apply Kd.R_drewN | apply Kd.R_drew)); exact HO138.out))) (below_size (by repeat (first | (with_reducible first | exact HB.out | apply below_alloc | apply pw_below_drewN | apply below_drew1) | exact HB.out)))); have n3_ := Aside0.mk (below_step (by repeat (first | (with_reducible first | exact HB.out | apply below_alloc | apply pw_below_drewN | apply below_drew1) | exact HB.out)) hb); clear HO134; clear HO138; clear HB; have HO134 := n0_; have HO138 := n1_; have HO142 := n2_; have HB := n3_; clear n0_ n1_ n2_ n3_; (try clear hb); (try clear hb2); (try clear hk); (try clear hi); (try clear ho0); obtain ⟨Ao34, co34, eo34⟩ := Kd.R_slice HO142.out; subst eo34) | ((with_reducible refine gate_callee (f := 20) rfl ?_); refine goesL_ (some 25) rfl rfl Try.func20 (by kernel_rfl) rfl #[.slice Ao31 t136.length co31, .slice Ao34 t140.length co34] rfl (by (try simp only [List.map_toArray, List.map_cons, List.map_nil]); first | done | rfl | (simp only [List.length_drop, List.length_take]; rfl)) ?_; (with_reducible refine (laws_eqNoteS.calls k _ _ t136 _ _ t140 false _ ?side1 ?side2 ?side3 ?side4 A16.out).mono ?_); (case side1 => repeat (first | exact (Kd.R_reads' HO138.out).2.2 | (with_reducible refine Kd.C_alloc ?_ _) | (with_reducible refine Kd.C_drewN ?_ _) | (with_reducible refine Kd.C_drew ?_))); (case side2 => exact (Kd.R_reads' HO138.out).2.1); (case side3 => repeat (first | exact (Kd.R_reads' HO142.out).2.2 | (with_reducible refine Kd.C_alloc ?_ _) | (with_reducible refine Kd.C_drewN ?_ _) | (with_reducible refine Kd.C_drew ?_))); (case side4 => exact (Kd.R_reads' HO142.out).2.1); rintro e w35 ⟨rfl, hb⟩; refine ⟨_, rfl, ?_⟩; have n0_ := Aside0.mk (Kd.R_below (by (with_reducible repeat (first | apply Kd.R_alloc | apply Kd.R_drewN | apply Kd.R_drew)); exact HO134.out) hb); have n1_ := Aside0.mk (Kd.R_below (by (with_reducible repeat (first | apply Kd.R_alloc | apply Kd.R_drewN | apply Kd.R_drew)); exact HO138.out) hb); have n2_ := Aside0.mk (Kd.R_below (by (with_reducible repeat (first | apply Kd.R_alloc | apply Kd.R_drewN | apply Kd.R_drew)); exact HO142.out) hb); have n3_ := Aside0.mk (below_step (by repeat (first | (with_reducible first | exact HB.out | apply below_alloc | apply pw_below_drewN | apply below_drew1) | exact HB.out)) hb); clear HO134; clear HO138; clear HO142; clear HB; have HO134 := n0_; have HO138 := n1_; have HO142 := n2_; have HB := n3_; clear n0_ n1_ n2_ n3_; (try clear hb); (try clear hb2); (try clear hk); (try clear hi)))
        go_ret
        exact ⟨by first | rfl | (simp [errW_none, errW_some] <;> rfl) | (simp [*, errW_none, errW_some] <;> rfl), by repeat (first | (with_reducible first | exact HB.out | apply below_alloc | apply pw_below_drewN | apply below_drew1) | exact HB.out)⟩

end Go.Proofs.Ytjeadgnoladnjaa.PFnExactOwned
