-- PRINTED BY print.sh 35421559b90ae4d0a3588c463048766b98c2df88dd9212a6774a882060cdf62d: not written by this session
import Derived.Test.YtjeadgnoladnjaaPFnExactOwnedx0
import Derived.Test.YtjeadgnoladnjaaPFnExactOwnedx1
namespace Go.Proofs.Ytjeadgnoladnjaa.PFnExactOwned
open Go.RowKit Go.Proofs.YtjeadgnoladnjaaW.PrintWords Go.Proofs.YtjeadgnoladnjaaW.PrintLast Go.Proofs.YtjeadgnoladnjaaW.PrintMore
attribute [local go_sem] max2_int min2_int max_two min_two max_three min_three max_four min_four   -- for this text's walks alone
set_option linter.unusedVariables false
set_option linter.unusedSimpArgs false

/-! ### spec_Owned: function 21 -/
mutual
def spec_Owned.l0 : Nat → List (S55) → Int → Int → Int → Int → Int → Int → Int → Int → Int → Int → Option (Bool)
  | 0, _, _, _, _, _, _, _, _, _, _, _ => none
  | k + 1, x0, x4, x124000, x124001, x124002, x124003, x124004, x124005, x124006, x124007, x124008 => if x4 < (x0.length : Int) then (if 0 ≤ x4 then ((spec_l1In.f ((rd_T55 x0 x4).f0) 1 8).bind fun t126 => (if t126 = true then (if ((rd_T55 x0 x4).f2) = ((rd_T55 x0 x4).f3) then (spec_Owned.j1 k x0 x4 (((rd_T55 x0 x4).f1) != ((rd_T55 x0 x4).f4)) x124000 x124001 x124002 x124003 x124004 x124005 x124006 x124007 x124008 ((rd_T55 x0 x4).f0) ((rd_T55 x0 x4).f1) ((rd_T55 x0 x4).f2) ((rd_T55 x0 x4).f3) ((rd_T55 x0 x4).f4) ((rd_T55 x0 x4).f5) ((rd_T55 x0 x4).f6) ((rd_T55 x0 x4).f7) ((rd_T55 x0 x4).f8)) else (spec_Owned.j1 k x0 x4 true x124000 x124001 x124002 x124003 x124004 x124005 x124006 x124007 x124008 ((rd_T55 x0 x4).f0) ((rd_T55 x0 x4).f1) ((rd_T55 x0 x4).f2) ((rd_T55 x0 x4).f3) ((rd_T55 x0 x4).f4) ((rd_T55 x0 x4).f5) ((rd_T55 x0 x4).f6) ((rd_T55 x0 x4).f7) ((rd_T55 x0 x4).f8))) else (spec_Owned.l0 k x0 (wrap64 (x4 + 1)) x124000 x124001 x124002 x124003 x124004 x124005 x124006 x124007 x124008))) else (none)) else (some true)
def spec_Owned.j1 : Nat → List (S55) → Int → Bool → Int → Int → Int → Int → Int → Int → Int → Int → Int → Int → Int → Int → Int → Int → Int → Int → Int → Int → Option (Bool)
  | 0, _, _, _, _, _, _, _, _, _, _, _, _, _, _, _, _, _, _, _, _, _ => none
  | k + 1, x0, x4, x32, x124000, x124001, x124002, x124003, x124004, x124005, x124006, x124007, x124008, x126000, x126001, x126002, x126003, x126004, x126005, x126006, x126007, x126008 => if x32 = true then (some false) else (if x126000 = 8 then (if x126008 = x126002 then (if x124000 = 0 then (spec_Owned.j2 k x0 x4 false x126000 x126001 x126002 x126003 x126004 x126005 x126006 x126007 x126008) else (spec_Owned.j2 k x0 x4 (decide (x126008 ≤ x124008)) x126000 x126001 x126002 x126003 x126004 x126005 x126006 x126007 x126008)) else (spec_Owned.j2 k x0 x4 true x126000 x126001 x126002 x126003 x126004 x126005 x126006 x126007 x126008)) else (if x124000 = 0 then (some false) else (if x124001 = x126001 then (if x124008 = x126002 then (spec_Owned.l0 k x0 (wrap64 (x4 + 1)) x124000 x124001 x124002 x124003 x124004 x124005 x124006 x124007 x124008) else (some false)) else (some false))))
def spec_Owned.j2 : Nat → List (S55) → Int → Bool → Int → Int → Int → Int → Int → Int → Int → Int → Int → Option (Bool)
  | 0, _, _, _, _, _, _, _, _, _, _, _, _ => none
  | k + 1, x0, x4, x52, x126000, x126001, x126002, x126003, x126004, x126005, x126006, x126007, x126008 => if x52 = true then (some false) else (spec_Owned.l0 k x0 (wrap64 (x4 + 1)) x126000 x126001 x126002 x126003 x126004 x126005 x126006 x126007 x126008)
end
def spec_Owned.f (k : Nat) (l0 : List (S55)) : Option (Bool) := spec_Owned.l0 k l0 0 0 0 0 0 0 0 0 0 0
theorem spec_Owned.mono_l : ∀ k, (∀ y0 y1 y2 y3 y4 y5 y6 y7 y8 y9 y10, LeO (spec_Owned.l0 k y0 y1 y2 y3 y4 y5 y6 y7 y8 y9 y10) (spec_Owned.l0 (k + 1) y0 y1 y2 y3 y4 y5 y6 y7 y8 y9 y10)) ∧ (∀ y0 y1 y2 y3 y4 y5 y6 y7 y8 y9 y10 y11 y12 y13 y14 y15 y16 y17 y18 y19 y20, LeO (spec_Owned.j1 k y0 y1 y2 y3 y4 y5 y6 y7 y8 y9 y10 y11 y12 y13 y14 y15 y16 y17 y18 y19 y20) (spec_Owned.j1 (k + 1) y0 y1 y2 y3 y4 y5 y6 y7 y8 y9 y10 y11 y12 y13 y14 y15 y16 y17 y18 y19 y20)) ∧ (∀ y0 y1 y2 y3 y4 y5 y6 y7 y8 y9 y10 y11, LeO (spec_Owned.j2 k y0 y1 y2 y3 y4 y5 y6 y7 y8 y9 y10 y11) (spec_Owned.j2 (k + 1) y0 y1 y2 y3 y4 y5 y6 y7 y8 y9 y10 y11))
  | 0 => ⟨fun _ _ _ _ _ _ _ _ _ _ _ r h => by simp [spec_Owned.l0] at h, fun _ _ _ _ _ _ _ _ _ _ _ _ _ _ _ _ _ _ _ _ _ r h => by simp [spec_Owned.j1] at h, fun _ _ _ _ _ _ _ _ _ _ _ _ r h => by simp [spec_Owned.j2] at h⟩
  | k + 1 => by
    obtain ⟨ih0, ih1, ih2⟩ := spec_Owned.mono_l k
    refine ⟨?_, ?_, ?_⟩
    · intro y0 y1 y2 y3 y4 y5 y6 y7 y8 y9 y10
      unfold spec_Owned.l0
      repeat' first
      | (with_reducible exact ih0 _ _ _ _ _ _ _ _ _ _ _)
      | (with_reducible exact ih1 _ _ _ _ _ _ _ _ _ _ _ _ _ _ _ _ _ _ _ _ _)
      | (with_reducible exact ih2 _ _ _ _ _ _ _ _ _ _ _ _)
      | (with_reducible exact LeO.refl _)
      | (with_reducible exact LeO.none _)
      | (with_reducible refine LeO.ite ?_ ?_)
      | (with_reducible refine LeO.bind ?_ (fun _ => ?_))
      | exact ih0 _ _ _ _ _ _ _ _ _ _ _
      | exact ih1 _ _ _ _ _ _ _ _ _ _ _ _ _ _ _ _ _ _ _ _ _
      | exact ih2 _ _ _ _ _ _ _ _ _ _ _ _
      | exact LeO.none _
      | refine LeO.ite ?_ ?_
      | refine LeO.bind ?_ (fun _ => ?_)
    · intro y0 y1 y2 y3 y4 y5 y6 y7 y8 y9 y10 y11 y12 y13 y14 y15 y16 y17 y18 y19 y20
      unfold spec_Owned.j1
      repeat' first
      | (with_reducible exact ih0 _ _ _ _ _ _ _ _ _ _ _)
      | (with_reducible exact ih1 _ _ _ _ _ _ _ _ _ _ _ _ _ _ _ _ _ _ _ _ _)
      | (with_reducible exact ih2 _ _ _ _ _ _ _ _ _ _ _ _)
      | (with_reducible exact LeO.refl _)
      | (with_reducible exact LeO.none _)
      | (with_reducible refine LeO.ite ?_ ?_)
      | (with_reducible refine LeO.bind ?_ (fun _ => ?_))
      | exact ih0 _ _ _ _ _ _ _ _ _ _ _
      | exact ih1 _ _ _ _ _ _ _ _ _ _ _ _ _ _ _ _ _ _ _ _ _
      | exact ih2 _ _ _ _ _ _ _ _ _ _ _ _
      | exact LeO.none _
      | refine LeO.ite ?_ ?_
      | refine LeO.bind ?_ (fun _ => ?_)
    · intro y0 y1 y2 y3 y4 y5 y6 y7 y8 y9 y10 y11
      unfold spec_Owned.j2
      repeat' first
      | (with_reducible exact ih0 _ _ _ _ _ _ _ _ _ _ _)
      | (with_reducible exact ih1 _ _ _ _ _ _ _ _ _ _ _ _ _ _ _ _ _ _ _ _ _)
      | (with_reducible exact ih2 _ _ _ _ _ _ _ _ _ _ _ _)
      | (with_reducible exact LeO.refl _)
      | (with_reducible exact LeO.none _)
      | (with_reducible refine LeO.ite ?_ ?_)
      | (with_reducible refine LeO.bind ?_ (fun _ => ?_))
      | exact ih0 _ _ _ _ _ _ _ _ _ _ _
      | exact ih1 _ _ _ _ _ _ _ _ _ _ _ _ _ _ _ _ _ _ _ _ _
      | exact ih2 _ _ _ _ _ _ _ _ _ _ _ _
      | exact LeO.none _
      | refine LeO.ite ?_ ?_
      | refine LeO.bind ?_ (fun _ => ?_)
theorem spec_Owned.mono : ∀ a0 k, LeO (spec_Owned.f k a0) (spec_Owned.f (k + 1) a0) := by
  intro a0 k
  obtain ⟨ih0, ih1, ih2⟩ := spec_Owned.mono_l k
  unfold spec_Owned.f
  repeat' first
      | (with_reducible exact ih0 _ _ _ _ _ _ _ _ _ _ _)
      | (with_reducible exact ih1 _ _ _ _ _ _ _ _ _ _ _ _ _ _ _ _ _ _ _ _ _)
      | (with_reducible exact ih2 _ _ _ _ _ _ _ _ _ _ _ _)
      | (with_reducible exact LeO.refl _)
      | (with_reducible exact LeO.none _)
      | (with_reducible refine LeO.ite ?_ ?_)
      | (with_reducible refine LeO.bind ?_ (fun _ => ?_))
      | exact ih0 _ _ _ _ _ _ _ _ _ _ _
      | exact ih1 _ _ _ _ _ _ _ _ _ _ _ _ _ _ _ _ _ _ _ _ _
      | exact ih2 _ _ _ _ _ _ _ _ _ _ _ _
      | exact LeO.none _
      | refine LeO.ite ?_ ?_
      | refine LeO.bind ?_ (fun _ => ?_)
set_option maxHeartbeats 8000000 in
set_option maxRecDepth 100000 in
theorem spec_Owned.calls (k : Nat) (A0 : Option Addr) (c0 : Nat) (l0 : List (S55)) (r : Bool) (w : World) (hr0 : Kd.C k55 w A0 l0.length l0) (hc0 : l0.length ≤ c0) (h : spec_Owned.f k l0 = some r) :
    Calls Try.prog 21 #[.slice A0 l0.length c0] w fun e w' => e = .returned (.bool r) ∧ Below w.heap.size w w' := by
  have hu55 := Try.underlying55
  have HR0 := Aside0.mk hr0
  have HC0 := Aside0.mk hc0
  clear hr0 hc0
  have HB := Aside0.mk (Below.refl w.heap.size w)
  have H : (spec_Owned.l0 k l0 0 0 0 0 0 0 0 0 0 0) = some r := h
  clear h
  have H' := Aside0.mk H
  clear H
  go_enter Try.func21, Try.ntmps21
  go_wp2_with (first | ((with_reducible refine gate_dst (N := 3) rfl ?_); refine box_event ?hg (N := 3) ?hd (cs := #[.int .i64 0, .int .i64 0, .int .i64 0, .int .i64 0, .int .i64 0, .int .i64 0, .int .i64 0, .int .i64 0, .int .i64 0]) (t := 55) ?hr ?_; (case hd => rfl); (case hg => rfl); (case hr => first | (go_simp; done) | (go_simp; rfl)); intro gb123 hg w2 hbox hb; have n0_ := Aside0.mk (below_step (by repeat (first | (with_reducible first | exact HB.out | apply below_alloc | apply pw_below_drewN | apply below_drew1) | exact HB.out)) hb); have n1_ := Aside0.mk (hbox); have n2_ := Aside0.mk ((by rw [hg]; exact (below_size (by repeat (first | (with_reducible first | exact HB.out | apply below_alloc | apply pw_below_drewN | apply below_drew1) | exact HB.out))) : w.heap.size ≤ gb123)); have n3_ := Aside0.mk ((by rw [hg]; exact (below_size (by repeat (first | (with_reducible first | exact HB.out | apply below_alloc | apply pw_below_drewN | apply below_drew1) | exact HB.out))) : w.heap.size ≤ gb123)); clear HB; have HB := n0_; have BK123 := n1_; have GW123 := n2_; have GE123 := n3_; clear n0_ n1_ n2_ n3_; clear hb hbox hg; have hcz3_0 : w2.cell? ⟨gb123, 0, none⟩ = some (.int .i64 0) := (blk_cell BK123.out 0).trans rfl; have hcz3_1 : w2.cell? ⟨gb123, 1, none⟩ = some (.int .i64 0) := (blk_cell BK123.out 1).trans rfl; have hcz3_2 : w2.cell? ⟨gb123, 2, none⟩ = some (.int .i64 0) := (blk_cell BK123.out 2).trans rfl; have hcz3_3 : w2.cell? ⟨gb123, 3, none⟩ = some (.int .i64 0) := (blk_cell BK123.out 3).trans rfl; have hcz3_4 : w2.cell? ⟨gb123, 4, none⟩ = some (.int .i64 0) := (blk_cell BK123.out 4).trans rfl; have hcz3_5 : w2.cell? ⟨gb123, 5, none⟩ = some (.int .i64 0) := (blk_cell BK123.out 5).trans rfl; have hcz3_6 : w2.cell? ⟨gb123, 6, none⟩ = some (.int .i64 0) := (blk_cell BK123.out 6).trans rfl; have hcz3_7 : w2.cell? ⟨gb123, 7, none⟩ = some (.int .i64 0) := (blk_cell BK123.out 7).trans rfl; have hcz3_8 : w2.cell? ⟨gb123, 8, none⟩ = some (.int .i64 0) := (blk_cell BK123.out 8).trans rfl; have hfz3_0 := blk_frozen BK123.out 0; have hfz3_1 := blk_frozen BK123.out 1; have hfz3_2 := blk_frozen BK123.out 2; have hfz3_3 := blk_frozen BK123.out 3; have hfz3_4 := blk_frozen BK123.out 4; have hfz3_5 := blk_frozen BK123.out 5; have hfz3_6 := blk_frozen BK123.out 6; have hfz3_7 := blk_frozen BK123.out 7; have hfz3_8 := blk_frozen BK123.out 8))
  go_loopg [4] k (fun kq v4 w' => ∃ (x4_1 : Int) (x124000_1 : Int) (x124001_1 : Int) (x124002_1 : Int) (x124003_1 : Int) (x124004_1 : Int) (x124005_1 : Int) (x124006_1 : Int) (x124007_1 : Int) (x124008_1 : Int), v4 = .int .i64 x4_1 ∧ Aside0 (spec_Owned.l0 kq l0 x4_1 x124000_1 x124001_1 x124002_1 x124003_1 x124004_1 x124005_1 x124006_1 x124007_1 x124008_1 = some r) ∧ Aside0 (kq ≤ k) ∧ Aside0 (w'.heap[gb123]? = some (.cells #[.int .i64 x124000_1, .int .i64 x124001_1, .int .i64 x124002_1, .int .i64 x124003_1, .int .i64 x124004_1, .int .i64 x124005_1, .int .i64 x124006_1, .int .i64 x124007_1, .int .i64 x124008_1] 55 (0, 0))) ∧ Aside0 (Below w.heap.size w w'))
  case atStart => exact ⟨(0), (0), (0), (0), (0), (0), (0), (0), (0), (0), (by first | rfl | (simp; done) | (simp [*]; done)), H', ⟨Nat.le_refl _⟩, ⟨by (with_reducible repeat (first | refine blk_drewN ?_ _ | refine blk_drew ?_ | refine blk_alloc ?_ _)); refine blk_put (cs := #[.int .i64 0, .int .i64 0, .int .i64 0, .int .i64 0, .int .i64 0, .int .i64 0, .int .i64 0, .int .i64 0, .int .i64 0]) ?_ 8 _ rfl; (with_reducible repeat (first | refine blk_drewN ?_ _ | refine blk_drew ?_ | refine blk_alloc ?_ _)); refine blk_put (cs := #[.int .i64 0, .int .i64 0, .int .i64 0, .int .i64 0, .int .i64 0, .int .i64 0, .int .i64 0, .int .i64 0, .int .i64 0]) ?_ 7 _ rfl; (with_reducible repeat (first | refine blk_drewN ?_ _ | refine blk_drew ?_ | refine blk_alloc ?_ _)); refine blk_put (cs := #[.int .i64 0, .int .i64 0, .int .i64 0, .int .i64 0, .int .i64 0, .int .i64 0, .int .i64 0, .int .i64 0, .int .i64 0]) ?_ 6 _ rfl; (with_reducible repeat (first | refine blk_drewN ?_ _ | refine blk_drew ?_ | refine blk_alloc ?_ _)); refine blk_put (cs := #[.int .i64 0, .int .i64 0, .int .i64 0, .int .i64 0, .int .i64 0, .int .i64 0, .int .i64 0, .int .i64 0, .int .i64 0]) ?_ 5 _ rfl; (with_reducible repeat (first | refine blk_drewN ?_ _ | refine blk_drew ?_ | refine blk_alloc ?_ _)); refine blk_put (cs := #[.int .i64 0, .int .i64 0, .int .i64 0, .int .i64 0, .int .i64 0, .int .i64 0, .int .i64 0, .int .i64 0, .int .i64 0]) ?_ 4 _ rfl; (with_reducible repeat (first | refine blk_drewN ?_ _ | refine blk_drew ?_ | refine blk_alloc ?_ _)); refine blk_put (cs := #[.int .i64 0, .int .i64 0, .int .i64 0, .int .i64 0, .int .i64 0, .int .i64 0, .int .i64 0, .int .i64 0, .int .i64 0]) ?_ 3 _ rfl; (with_reducible repeat (first | refine blk_drewN ?_ _ | refine blk_drew ?_ | refine blk_alloc ?_ _)); refine blk_put (cs := #[.int .i64 0, .int .i64 0, .int .i64 0, .int .i64 0, .int .i64 0, .int .i64 0, .int .i64 0, .int .i64 0, .int .i64 0]) ?_ 2 _ rfl; (with_reducible repeat (first | refine blk_drewN ?_ _ | refine blk_drew ?_ | refine blk_alloc ?_ _)); refine blk_put (cs := #[.int .i64 0, .int .i64 0, .int .i64 0, .int .i64 0, .int .i64 0, .int .i64 0, .int .i64 0, .int .i64 0, .int .i64 0]) ?_ 1 _ rfl; (with_reducible repeat (first | refine blk_drewN ?_ _ | refine blk_drew ?_ | refine blk_alloc ?_ _)); refine blk_put (cs := #[.int .i64 0, .int .i64 0, .int .i64 0, .int .i64 0, .int .i64 0, .int .i64 0, .int .i64 0, .int .i64 0, .int .i64 0]) ?_ 0 _ rfl; (with_reducible repeat (first | refine blk_drewN ?_ _ | refine blk_drew ?_ | refine blk_alloc ?_ _)); exact BK123.out⟩, ⟨by repeat (first | (with_reducible first | exact HB.out | apply below_alloc | apply pw_below_drewN | apply below_drew1 | refine below_set ?_ GE123.out) | exact HB.out)⟩⟩
  case round =>
    clear H'
    try clear c2
    try clear p2
    try clear hcz3_0
    try clear hcz3_1
    try clear hcz3_2
    try clear hcz3_3
    try clear hcz3_4
    try clear hcz3_5
    try clear hcz3_6
    try clear hcz3_7
    try clear hcz3_8
    try clear hfz3_0
    try clear hfz3_1
    try clear hfz3_2
    try clear hfz3_3
    try clear hfz3_4
    try clear hfz3_5
    try clear hfz3_6
    try clear hfz3_7
    try clear hfz3_8
    obtain ⟨x4_1, x124000_1, x124001_1, x124002_1, x124003_1, x124004_1, x124005_1, x124006_1, x124007_1, x124008_1, rfl, HA, HK1, BK123, HB⟩ := hrel
    cases gk with
    | zero => exact absurd HA.out (by simp [spec_Owned.l0])
    | succ k1 =>
      have H := HA.out
      clear HA
      simp only [spec_Owned.l0] at H
      by_cases c4 : x4_1 < (l0.length : Int)
      · rw [if_pos c4] at H
        have c4b0 : decide (x4_1 < (l0.length : Int)) = true := decide_eq_true c4
        clear c4
        by_cases c5 : 0 ≤ x4_1
        · rw [if_pos c5] at H
          have c5b0 : decide (0 ≤ x4_1) = true := decide_eq_true c5
          clear c5
          replace H := Option.bind_eq_some_iff.mp H
          obtain ⟨t126, A60, H⟩ := H
          replace H : (if t126 = true then (if ((rd_T55 l0 x4_1).f2) = ((rd_T55 l0 x4_1).f3) then (spec_Owned.j1 k1 l0 x4_1 (((rd_T55 l0 x4_1).f1) != ((rd_T55 l0 x4_1).f4)) x124000_1 x124001_1 x124002_1 x124003_1 x124004_1 x124005_1 x124006_1 x124007_1 x124008_1 ((rd_T55 l0 x4_1).f0) ((rd_T55 l0 x4_1).f1) ((rd_T55 l0 x4_1).f2) ((rd_T55 l0 x4_1).f3) ((rd_T55 l0 x4_1).f4) ((rd_T55 l0 x4_1).f5) ((rd_T55 l0 x4_1).f6) ((rd_T55 l0 x4_1).f7) ((rd_T55 l0 x4_1).f8)) else (spec_Owned.j1 k1 l0 x4_1 true x124000_1 x124001_1 x124002_1 x124003_1 x124004_1 x124005_1 x124006_1 x124007_1 x124008_1 ((rd_T55 l0 x4_1).f0) ((rd_T55 l0 x4_1).f1) ((rd_T55 l0 x4_1).f2) ((rd_T55 l0 x4_1).f3) ((rd_T55 l0 x4_1).f4) ((rd_T55 l0 x4_1).f5) ((rd_T55 l0 x4_1).f6) ((rd_T55 l0 x4_1).f7) ((rd_T55 l0 x4_1).f8))) else (spec_Owned.l0 k1 l0 (wrap64 (x4_1 + 1)) x124000_1 x124001_1 x124002_1 x124003_1 x124004_1 x124005_1 x124006_1 x124007_1 x124008_1)) = some r := H
          have A6 := Aside0.mk A60
          clear A60
          by_cases c7 : t126 = true
          · subst c7
            have H1 : (if ((rd_T55 l0 x4_1).f2) = ((rd_T55 l0 x4_1).f3) then (spec_Owned.j1 k1 l0 x4_1 (((rd_T55 l0 x4_1).f1) != ((rd_T55 l0 x4_1).f4)) x124000_1 x124001_1 x124002_1 x124003_1 x124004_1 x124005_1 x124006_1 x124007_1 x124008_1 ((rd_T55 l0 x4_1).f0) ((rd_T55 l0 x4_1).f1) ((rd_T55 l0 x4_1).f2) ((rd_T55 l0 x4_1).f3) ((rd_T55 l0 x4_1).f4) ((rd_T55 l0 x4_1).f5) ((rd_T55 l0 x4_1).f6) ((rd_T55 l0 x4_1).f7) ((rd_T55 l0 x4_1).f8)) else (spec_Owned.j1 k1 l0 x4_1 true x124000_1 x124001_1 x124002_1 x124003_1 x124004_1 x124005_1 x124006_1 x124007_1 x124008_1 ((rd_T55 l0 x4_1).f0) ((rd_T55 l0 x4_1).f1) ((rd_T55 l0 x4_1).f2) ((rd_T55 l0 x4_1).f3) ((rd_T55 l0 x4_1).f4) ((rd_T55 l0 x4_1).f5) ((rd_T55 l0 x4_1).f6) ((rd_T55 l0 x4_1).f7) ((rd_T55 l0 x4_1).f8))) = some r := by rw [if_pos rfl] at H; exact H
            clear H
            have H := H1
            clear H1
            have HC8 := Aside0.mk H
            clear H
            have p124 : 0 ≤ (x4_1 : Int) := of_decide_eq_true (by first | (with_reducible assumption) | assumption)
            have q124 : x4_1 < (l0.length : Int) := of_decide_eq_true (by first | (with_reducible assumption) | assumption)
            obtain ⟨ad124, e124, hx124_0, hx124_1, hx124_2, hx124_3, hx124_4, hx124_5, hx124_6, hx124_7, hx124_8⟩ := at_T55 HR0.out x4_1 p124 q124
            cases e124
            replace hx124_0 := (HB.out.cell (World.block_lt_of_cell? w _ hx124_0)).trans hx124_0
            replace hx124_1 := (HB.out.cell (World.block_lt_of_cell? w _ hx124_1)).trans hx124_1
            replace hx124_2 := (HB.out.cell (World.block_lt_of_cell? w _ hx124_2)).trans hx124_2
            replace hx124_3 := (HB.out.cell (World.block_lt_of_cell? w _ hx124_3)).trans hx124_3
            replace hx124_4 := (HB.out.cell (World.block_lt_of_cell? w _ hx124_4)).trans hx124_4
            replace hx124_5 := (HB.out.cell (World.block_lt_of_cell? w _ hx124_5)).trans hx124_5
            replace hx124_6 := (HB.out.cell (World.block_lt_of_cell? w _ hx124_6)).trans hx124_6
            replace hx124_7 := (HB.out.cell (World.block_lt_of_cell? w _ hx124_7)).trans hx124_7
            replace hx124_8 := (HB.out.cell (World.block_lt_of_cell? w _ hx124_8)).trans hx124_8
            replace p124 := eq_true p124
            replace q124 := eq_true q124
            go_upto_region 7 with (first | ((with_reducible refine gate_dst (N := 5) rfl ?_); refine box_event ?hg (N := 5) ?hd (cs := #[.int .i64 0, .int .i64 0, .int .i64 0, .int .i64 0, .int .i64 0, .int .i64 0, .int .i64 0, .int .i64 0, .int .i64 0]) (t := 55) ?hr ?_; (case hd => rfl); (case hg => rfl); (case hr => first | (go_simp; done) | (go_simp; rfl)); intro gb125 hg w9 hbox hb; have n0_ := Aside0.mk (blk_below (g := gb123) (o := .cells #[.int .i64 x124000_1, .int .i64 x124001_1, .int .i64 x124002_1, .int .i64 x124003_1, .int .i64 x124004_1, .int .i64 x124005_1, .int .i64 x124006_1, .int .i64 x124007_1, .int .i64 x124008_1] 55 (0, 0)) (by (with_reducible repeat (first | refine blk_drewN ?_ _ | refine blk_drew ?_ | refine blk_alloc ?_ _)); exact BK123.out) hb); have n1_ := Aside0.mk (below_step (by repeat (first | (with_reducible first | exact HB.out | apply below_alloc | apply pw_below_drewN | apply below_drew1 | refine below_set ?_ GE123.out) | exact HB.out)) hb); have n2_ := Aside0.mk (hbox); have n3_ := Aside0.mk ((by rw [hg]; exact (below_size (by repeat (first | (with_reducible first | exact HB.out | apply below_alloc | apply pw_below_drewN | apply below_drew1 | refine below_set ?_ GE123.out) | exact HB.out))) : w.heap.size ≤ gb125)); have n4_ := Aside0.mk ((by rw [hg]; exact (below_size (by repeat (first | (with_reducible first | exact HB.out | apply below_alloc | apply pw_below_drewN | apply below_drew1 | refine below_set ?_ GE123.out) | exact HB.out))) : w.heap.size ≤ gb125)); have n5_ := Aside0.mk ((by rw [hg]; exact Nat.ne_of_lt (blk_lt (g := gb123) (o := .cells #[.int .i64 x124000_1, .int .i64 x124001_1, .int .i64 x124002_1, .int .i64 x124003_1, .int .i64 x124004_1, .int .i64 x124005_1, .int .i64 x124006_1, .int .i64 x124007_1, .int .i64 x124008_1] 55 (0, 0)) (by (with_reducible repeat (first | refine blk_drewN ?_ _ | refine blk_drew ?_ | refine blk_alloc ?_ _)); exact BK123.out)) : gb123 ≠ gb125)); have n6_ := Aside0.mk ((by rw [hg]; exact Nat.ne_of_gt (blk_lt (g := gb123) (o := .cells #[.int .i64 x124000_1, .int .i64 x124001_1, .int .i64 x124002_1, .int .i64 x124003_1, .int .i64 x124004_1, .int .i64 x124005_1, .int .i64 x124006_1, .int .i64 x124007_1, .int .i64 x124008_1] 55 (0, 0)) (by (with_reducible repeat (first | refine blk_drewN ?_ _ | refine blk_drew ?_ | refine blk_alloc ?_ _)); exact BK123.out)) : gb125 ≠ gb123)); clear BK123; clear HB; have BK123 := n0_; have HB := n1_; have BK125 := n2_; have GW125 := n3_; have GE125 := n4_; have NB123_125 := n5_; have NB125_123 := n6_; clear n0_ n1_ n2_ n3_ n4_ n5_ n6_; clear hb hbox hg; have hnb10 := NB125_123.out; have hnc10 := NB123_125.out; have hcz11_0 : w9.cell? ⟨gb125, 0, none⟩ = some (.int .i64 0) := (blk_cell BK125.out 0).trans rfl; have hcz11_1 : w9.cell? ⟨gb125, 1, none⟩ = some (.int .i64 0) := (blk_cell BK125.out 1).trans rfl; have hcz11_2 : w9.cell? ⟨gb125, 2, none⟩ = some (.int .i64 0) := (blk_cell BK125.out 2).trans rfl; have hcz11_3 : w9.cell? ⟨gb125, 3, none⟩ = some (.int .i64 0) := (blk_cell BK125.out 3).trans rfl; have hcz11_4 : w9.cell? ⟨gb125, 4, none⟩ = some (.int .i64 0) := (blk_cell BK125.out 4).trans rfl; have hcz11_5 : w9.cell? ⟨gb125, 5, none⟩ = some (.int .i64 0) := (blk_cell BK125.out 5).trans rfl; have hcz11_6 : w9.cell? ⟨gb125, 6, none⟩ = some (.int .i64 0) := (blk_cell BK125.out 6).trans rfl; have hcz11_7 : w9.cell? ⟨gb125, 7, none⟩ = some (.int .i64 0) := (blk_cell BK125.out 7).trans rfl; have hcz11_8 : w9.cell? ⟨gb125, 8, none⟩ = some (.int .i64 0) := (blk_cell BK125.out 8).trans rfl; have hfz11_0 := blk_frozen BK125.out 0; have hfz11_1 := blk_frozen BK125.out 1; have hfz11_2 := blk_frozen BK125.out 2; have hfz11_3 := blk_frozen BK125.out 3; have hfz11_4 := blk_frozen BK125.out 4; have hfz11_5 := blk_frozen BK125.out 5; have hfz11_6 := blk_frozen BK125.out 6; have hfz11_7 := blk_frozen BK125.out 7; have hfz11_8 := blk_frozen BK125.out 8) | ((with_reducible refine gate_callee (f := 31) rfl ?_); refine goesL_ (some 19) rfl rfl Try.func31 (by kernel_rfl) rfl #[.int .i64 ((rd_T55 l0 x4_1).f0), .int .i64 1, .int .i64 8] rfl (by (try simp only [List.map_toArray, List.map_cons, List.map_nil]); first | done | rfl | (simp only [List.length_drop, List.length_take]; rfl)) ?_; (with_reducible refine (spec_l1In.calls ((rd_T55 l0 x4_1).f0) 1 8 true _ A6.out).mono ?_); rintro e w' ⟨rfl, ⟨nd, rfl⟩⟩; refine ⟨_, rfl, ?_⟩))
            (try simp only [Act.put, List.setIfInBounds_toArray, List.set_cons_zero, List.set_cons_succ])
            go_cut [32] (fun v32 wc => ∃ (kq : Nat) (x32_7 : Bool), v32 = .bool x32_7 ∧ Aside0 (spec_Owned.j1 kq l0 x4_1 x32_7 x124000_1 x124001_1 x124002_1 x124003_1 x124004_1 x124005_1 x124006_1 x124007_1 x124008_1 ((rd_T55 l0 x4_1).f0) ((rd_T55 l0 x4_1).f1) ((rd_T55 l0 x4_1).f2) ((rd_T55 l0 x4_1).f3) ((rd_T55 l0 x4_1).f4) ((rd_T55 l0 x4_1).f5) ((rd_T55 l0 x4_1).f6) ((rd_T55 l0 x4_1).f7) ((rd_T55 l0 x4_1).f8) = some r) ∧ Aside0 (kq ≤ k1) ∧ Aside0 (wc.heap[gb123]? = some (.cells #[.int .i64 x124000_1, .int .i64 x124001_1, .int .i64 x124002_1, .int .i64 x124003_1, .int .i64 x124004_1, .int .i64 x124005_1, .int .i64 x124006_1, .int .i64 x124007_1, .int .i64 x124008_1] 55 (0, 0))) ∧ Aside0 (wc.heap[gb125]? = some (.cells #[.int .i64 ((rd_T55 l0 x4_1).f0), .int .i64 ((rd_T55 l0 x4_1).f1), .int .i64 ((rd_T55 l0 x4_1).f2), .int .i64 ((rd_T55 l0 x4_1).f3), .int .i64 ((rd_T55 l0 x4_1).f4), .int .i64 ((rd_T55 l0 x4_1).f5), .int .i64 ((rd_T55 l0 x4_1).f6), .int .i64 ((rd_T55 l0 x4_1).f7), .int .i64 ((rd_T55 l0 x4_1).f8)] 55 (0, 0))) ∧ Aside0 (Below w.heap.size w wc))
            case first =>
              have H := HC8.out
              clear HC8
              by_cases c12 : ((rd_T55 l0 x4_1).f2) = ((rd_T55 l0 x4_1).f3)
              · rw [if_pos c12] at H
                have c12b0 : (((rd_T55 l0 x4_1).f2) == ((rd_T55 l0 x4_1).f3)) = true := beq_iff_eq.mpr c12
                have c12b1 : (((rd_T55 l0 x4_1).f2) != ((rd_T55 l0 x4_1).f3)) = false := bne_eq_false_iff_eq.mpr c12
                clear c12
                (first | rw [c12b0] | (simp only [i64_w, i32_w]; rw [c12b0]) | skip)
                have H' := Aside0.mk H
                clear H
                have hnb13 := NB125_123.out
                have hnc13 := NB123_125.out
                have hcz14_0 : w9.cell? ⟨gb125, 0, none⟩ = some (.int .i64 0) := (blk_cell BK125.out 0).trans rfl
                have hcz14_1 : w9.cell? ⟨gb125, 1, none⟩ = some (.int .i64 0) := (blk_cell BK125.out 1).trans rfl
                have hcz14_2 : w9.cell? ⟨gb125, 2, none⟩ = some (.int .i64 0) := (blk_cell BK125.out 2).trans rfl
                have hcz14_3 : w9.cell? ⟨gb125, 3, none⟩ = some (.int .i64 0) := (blk_cell BK125.out 3).trans rfl
                have hcz14_4 : w9.cell? ⟨gb125, 4, none⟩ = some (.int .i64 0) := (blk_cell BK125.out 4).trans rfl
                have hcz14_5 : w9.cell? ⟨gb125, 5, none⟩ = some (.int .i64 0) := (blk_cell BK125.out 5).trans rfl
                have hcz14_6 : w9.cell? ⟨gb125, 6, none⟩ = some (.int .i64 0) := (blk_cell BK125.out 6).trans rfl
                have hcz14_7 : w9.cell? ⟨gb125, 7, none⟩ = some (.int .i64 0) := (blk_cell BK125.out 7).trans rfl
                have hcz14_8 : w9.cell? ⟨gb125, 8, none⟩ = some (.int .i64 0) := (blk_cell BK125.out 8).trans rfl
                have hfz14_0 := blk_frozen BK125.out 0
                have hfz14_1 := blk_frozen BK125.out 1
                have hfz14_2 := blk_frozen BK125.out 2
                have hfz14_3 := blk_frozen BK125.out 3
                have hfz14_4 := blk_frozen BK125.out 4
                have hfz14_5 := blk_frozen BK125.out 5
                have hfz14_6 := blk_frozen BK125.out 6
                have hfz14_7 := blk_frozen BK125.out 7
                have hfz14_8 := blk_frozen BK125.out 8
                go_wp2
                go_meet
                case rel => exact ⟨_, ((((rd_T55 l0 x4_1).f1) != ((rd_T55 l0 x4_1).f4))), (by first | rfl | (simp; done) | (simp [*]; done)), H', ⟨by have := HK1.out; first | omega | exact Nat.le_refl _⟩, ⟨by (with_reducible repeat (first | refine blk_drewN ?_ _ | refine blk_drew ?_ | refine blk_alloc ?_ _)); refine blk_far ?_ NB123_125.out _; (with_reducible repeat (first | refine blk_drewN ?_ _ | refine blk_drew ?_ | refine blk_alloc ?_ _)); refine blk_far ?_ NB123_125.out _; (with_reducible repeat (first | refine blk_drewN ?_ _ | refine blk_drew ?_ | refine blk_alloc ?_ _)); refine blk_far ?_ NB123_125.out _; (with_reducible repeat (first | refine blk_drewN ?_ _ | refine blk_drew ?_ | refine blk_alloc ?_ _)); refine blk_far ?_ NB123_125.out _; (with_reducible repeat (first | refine blk_drewN ?_ _ | refine blk_drew ?_ | refine blk_alloc ?_ _)); refine blk_far ?_ NB123_125.out _; (with_reducible repeat (first | refine blk_drewN ?_ _ | refine blk_drew ?_ | refine blk_alloc ?_ _)); refine blk_far ?_ NB123_125.out _; (with_reducible repeat (first | refine blk_drewN ?_ _ | refine blk_drew ?_ | refine blk_alloc ?_ _)); refine blk_far ?_ NB123_125.out _; (with_reducible repeat (first | refine blk_drewN ?_ _ | refine blk_drew ?_ | refine blk_alloc ?_ _)); refine blk_far ?_ NB123_125.out _; (with_reducible repeat (first | refine blk_drewN ?_ _ | refine blk_drew ?_ | refine blk_alloc ?_ _)); refine blk_far ?_ NB123_125.out _; (with_reducible repeat (first | refine blk_drewN ?_ _ | refine blk_drew ?_ | refine blk_alloc ?_ _)); exact BK123.out⟩, ⟨by (with_reducible repeat (first | refine blk_drewN ?_ _ | refine blk_drew ?_ | refine blk_alloc ?_ _)); refine blk_put (cs := #[.int .i64 ((rd_T55 l0 x4_1).f0), .int .i64 ((rd_T55 l0 x4_1).f1), .int .i64 ((rd_T55 l0 x4_1).f2), .int .i64 ((rd_T55 l0 x4_1).f3), .int .i64 ((rd_T55 l0 x4_1).f4), .int .i64 ((rd_T55 l0 x4_1).f5), .int .i64 ((rd_T55 l0 x4_1).f6), .int .i64 ((rd_T55 l0 x4_1).f7), .int .i64 0]) ?_ 8 _ rfl; (with_reducible repeat (first | refine blk_drewN ?_ _ | refine blk_drew ?_ | refine blk_alloc ?_ _)); refine blk_put (cs := #[.int .i64 ((rd_T55 l0 x4_1).f0), .int .i64 ((rd_T55 l0 x4_1).f1), .int .i64 ((rd_T55 l0 x4_1).f2), .int .i64 ((rd_T55 l0 x4_1).f3), .int .i64 ((rd_T55 l0 x4_1).f4), .int .i64 ((rd_T55 l0 x4_1).f5), .int .i64 ((rd_T55 l0 x4_1).f6), .int .i64 0, .int .i64 0]) ?_ 7 _ rfl; (with_reducible repeat (first | refine blk_drewN ?_ _ | refine blk_drew ?_ | refine blk_alloc ?_ _)); refine blk_put (cs := #[.int .i64 ((rd_T55 l0 x4_1).f0), .int .i64 ((rd_T55 l0 x4_1).f1), .int .i64 ((rd_T55 l0 x4_1).f2), .int .i64 ((rd_T55 l0 x4_1).f3), .int .i64 ((rd_T55 l0 x4_1).f4), .int .i64 ((rd_T55 l0 x4_1).f5), .int .i64 0, .int .i64 0, .int .i64 0]) ?_ 6 _ rfl; (with_reducible repeat (first | refine blk_drewN ?_ _ | refine blk_drew ?_ | refine blk_alloc ?_ _)); refine blk_put (cs := #[.int .i64 ((rd_T55 l0 x4_1).f0), .int .i64 ((rd_T55 l0 x4_1).f1), .int .i64 ((rd_T55 l0 x4_1).f2), .int .i64 ((rd_T55 l0 x4_1).f3), .int .i64 ((rd_T55 l0 x4_1).f4), .int .i64 0, .int .i64 0, .int .i64 0, .int .i64 0]) ?_ 5 _ rfl; (with_reducible repeat (first | refine blk_drewN ?_ _ | refine blk_drew ?_ | refine blk_alloc ?_ _)); refine blk_put (cs := #[.int .i64 ((rd_T55 l0 x4_1).f0), .int .i64 ((rd_T55 l0 x4_1).f1), .int .i64 ((rd_T55 l0 x4_1).f2), .int .i64 ((rd_T55 l0 x4_1).f3), .int .i64 0, .int .i64 0, .int .i64 0, .int .i64 0, .int .i64 0]) ?_ 4 _ rfl; (with_reducible repeat (first | refine blk_drewN ?_ _ | refine blk_drew ?_ | refine blk_alloc ?_ _)); refine blk_put (cs := #[.int .i64 ((rd_T55 l0 x4_1).f0), .int .i64 ((rd_T55 l0 x4_1).f1), .int .i64 ((rd_T55 l0 x4_1).f2), .int .i64 0, .int .i64 0, .int .i64 0, .int .i64 0, .int .i64 0, .int .i64 0]) ?_ 3 _ rfl; (with_reducible repeat (first | refine blk_drewN ?_ _ | refine blk_drew ?_ | refine blk_alloc ?_ _)); refine blk_put (cs := #[.int .i64 ((rd_T55 l0 x4_1).f0), .int .i64 ((rd_T55 l0 x4_1).f1), .int .i64 0, .int .i64 0, .int .i64 0, .int .i64 0, .int .i64 0, .int .i64 0, .int .i64 0]) ?_ 2 _ rfl; (with_reducible repeat (first | refine blk_drewN ?_ _ | refine blk_drew ?_ | refine blk_alloc ?_ _)); refine blk_put (cs := #[.int .i64 ((rd_T55 l0 x4_1).f0), .int .i64 0, .int .i64 0, .int .i64 0, .int .i64 0, .int .i64 0, .int .i64 0, .int .i64 0, .int .i64 0]) ?_ 1 _ rfl; (with_reducible repeat (first | refine blk_drewN ?_ _ | refine blk_drew ?_ | refine blk_alloc ?_ _)); refine blk_put (cs := #[.int .i64 0, .int .i64 0, .int .i64 0, .int .i64 0, .int .i64 0, .int .i64 0, .int .i64 0, .int .i64 0, .int .i64 0]) ?_ 0 _ rfl; (with_reducible repeat (first | refine blk_drewN ?_ _ | refine blk_drew ?_ | refine blk_alloc ?_ _)); exact BK125.out⟩, ⟨by repeat (first | (with_reducible first | exact HB.out | apply below_alloc | apply pw_below_drewN | apply below_drew1 | refine below_set ?_ GE123.out | refine below_set ?_ GE125.out) | exact HB.out)⟩⟩
              · rw [if_neg c12] at H
                have c12b0 : (((rd_T55 l0 x4_1).f2) == ((rd_T55 l0 x4_1).f3)) = false := beq_eq_false_iff_ne.mpr c12
                have c12b1 : (((rd_T55 l0 x4_1).f2) != ((rd_T55 l0 x4_1).f3)) = true := bne_iff_ne.mpr c12
                (first | rw [c12b0] | (simp only [i64_w, i32_w]; rw [c12b0]) | skip)
                have H' := Aside0.mk H
                clear H
                have hnb15 := NB125_123.out
                have hnc15 := NB123_125.out
                have hcz16_0 : w9.cell? ⟨gb125, 0, none⟩ = some (.int .i64 0) := (blk_cell BK125.out 0).trans rfl
                have hcz16_1 : w9.cell? ⟨gb125, 1, none⟩ = some (.int .i64 0) := (blk_cell BK125.out 1).trans rfl
                have hcz16_2 : w9.cell? ⟨gb125, 2, none⟩ = some (.int .i64 0) := (blk_cell BK125.out 2).trans rfl
                have hcz16_3 : w9.cell? ⟨gb125, 3, none⟩ = some (.int .i64 0) := (blk_cell BK125.out 3).trans rfl
                have hcz16_4 : w9.cell? ⟨gb125, 4, none⟩ = some (.int .i64 0) := (blk_cell BK125.out 4).trans rfl
                have hcz16_5 : w9.cell? ⟨gb125, 5, none⟩ = some (.int .i64 0) := (blk_cell BK125.out 5).trans rfl
                have hcz16_6 : w9.cell? ⟨gb125, 6, none⟩ = some (.int .i64 0) := (blk_cell BK125.out 6).trans rfl
                have hcz16_7 : w9.cell? ⟨gb125, 7, none⟩ = some (.int .i64 0) := (blk_cell BK125.out 7).trans rfl
                have hcz16_8 : w9.cell? ⟨gb125, 8, none⟩ = some (.int .i64 0) := (blk_cell BK125.out 8).trans rfl
                have hfz16_0 := blk_frozen BK125.out 0
                have hfz16_1 := blk_frozen BK125.out 1
                have hfz16_2 := blk_frozen BK125.out 2
                have hfz16_3 := blk_frozen BK125.out 3
                have hfz16_4 := blk_frozen BK125.out 4
                have hfz16_5 := blk_frozen BK125.out 5
                have hfz16_6 := blk_frozen BK125.out 6
                have hfz16_7 := blk_frozen BK125.out 7
                have hfz16_8 := blk_frozen BK125.out 8
                go_wp2
                go_meet
                case rel => exact ⟨_, (true), (by first | rfl | (simp; done) | (simp [*]; done)), H', ⟨by have := HK1.out; first | omega | exact Nat.le_refl _⟩, ⟨by (with_reducible repeat (first | refine blk_drewN ?_ _ | refine blk_drew ?_ | refine blk_alloc ?_ _)); refine blk_far ?_ NB123_125.out _; (with_reducible repeat (first | refine blk_drewN ?_ _ | refine blk_drew ?_ | refine blk_alloc ?_ _)); refine blk_far ?_ NB123_125.out _; (with_reducible repeat (first | refine blk_drewN ?_ _ | refine blk_drew ?_ | refine blk_alloc ?_ _)); refine blk_far ?_ NB123_125.out _; (with_reducible repeat (first | refine blk_drewN ?_ _ | refine blk_drew ?_ | refine blk_alloc ?_ _)); refine blk_far ?_ NB123_125.out _; (with_reducible repeat (first | refine blk_drewN ?_ _ | refine blk_drew ?_ | refine blk_alloc ?_ _)); refine blk_far ?_ NB123_125.out _; (with_reducible repeat (first | refine blk_drewN ?_ _ | refine blk_drew ?_ | refine blk_alloc ?_ _)); refine blk_far ?_ NB123_125.out _; (with_reducible repeat (first | refine blk_drewN ?_ _ | refine blk_drew ?_ | refine blk_alloc ?_ _)); refine blk_far ?_ NB123_125.out _; (with_reducible repeat (first | refine blk_drewN ?_ _ | refine blk_drew ?_ | refine blk_alloc ?_ _)); refine blk_far ?_ NB123_125.out _; (with_reducible repeat (first | refine blk_drewN ?_ _ | refine blk_drew ?_ | refine blk_alloc ?_ _)); refine blk_far ?_ NB123_125.out _; (with_reducible repeat (first | refine blk_drewN ?_ _ | refine blk_drew ?_ | refine blk_alloc ?_ _)); exact BK123.out⟩, ⟨by (with_reducible repeat (first | refine blk_drewN ?_ _ | refine blk_drew ?_ | refine blk_alloc ?_ _)); refine blk_put (cs := #[.int .i64 ((rd_T55 l0 x4_1).f0), .int .i64 ((rd_T55 l0 x4_1).f1), .int .i64 ((rd_T55 l0 x4_1).f2), .int .i64 ((rd_T55 l0 x4_1).f3), .int .i64 ((rd_T55 l0 x4_1).f4), .int .i64 ((rd_T55 l0 x4_1).f5), .int .i64 ((rd_T55 l0 x4_1).f6), .int .i64 ((rd_T55 l0 x4_1).f7), .int .i64 0]) ?_ 8 _ rfl; (with_reducible repeat (first | refine blk_drewN ?_ _ | refine blk_drew ?_ | refine blk_alloc ?_ _)); refine blk_put (cs := #[.int .i64 ((rd_T55 l0 x4_1).f0), .int .i64 ((rd_T55 l0 x4_1).f1), .int .i64 ((rd_T55 l0 x4_1).f2), .int .i64 ((rd_T55 l0 x4_1).f3), .int .i64 ((rd_T55 l0 x4_1).f4), .int .i64 ((rd_T55 l0 x4_1).f5), .int .i64 ((rd_T55 l0 x4_1).f6), .int .i64 0, .int .i64 0]) ?_ 7 _ rfl; (with_reducible repeat (first | refine blk_drewN ?_ _ | refine blk_drew ?_ | refine blk_alloc ?_ _)); refine blk_put (cs := #[.int .i64 ((rd_T55 l0 x4_1).f0), .int .i64 ((rd_T55 l0 x4_1).f1), .int .i64 ((rd_T55 l0 x4_1).f2), .int .i64 ((rd_T55 l0 x4_1).f3), .int .i64 ((rd_T55 l0 x4_1).f4), .int .i64 ((rd_T55 l0 x4_1).f5), .int .i64 0, .int .i64 0, .int .i64 0]) ?_ 6 _ rfl; (with_reducible repeat (first | refine blk_drewN ?_ _ | refine blk_drew ?_ | refine blk_alloc ?_ _)); refine blk_put (cs := #[.int .i64 ((rd_T55 l0 x4_1).f0), .int .i64 ((rd_T55 l0 x4_1).f1), .int .i64 ((rd_T55 l0 x4_1).f2), .int .i64 ((rd_T55 l0 x4_1).f3), .int .i64 ((rd_T55 l0 x4_1).f4), .int .i64 0, .int .i64 0, .int .i64 0, .int .i64 0]) ?_ 5 _ rfl; (with_reducible repeat (first | refine blk_drewN ?_ _ | refine blk_drew ?_ | refine blk_alloc ?_ _)); refine blk_put (cs := #[.int .i64 ((rd_T55 l0 x4_1).f0), .int .i64 ((rd_T55 l0 x4_1).f1), .int .i64 ((rd_T55 l0 x4_1).f2), .int .i64 ((rd_T55 l0 x4_1).f3), .int .i64 0, .int .i64 0, .int .i64 0, .int .i64 0, .int .i64 0]) ?_ 4 _ rfl; (with_reducible repeat (first | refine blk_drewN ?_ _ | refine blk_drew ?_ | refine blk_alloc ?_ _)); refine blk_put (cs := #[.int .i64 ((rd_T55 l0 x4_1).f0), .int .i64 ((rd_T55 l0 x4_1).f1), .int .i64 ((rd_T55 l0 x4_1).f2), .int .i64 0, .int .i64 0, .int .i64 0, .int .i64 0, .int .i64 0, .int .i64 0]) ?_ 3 _ rfl; (with_reducible repeat (first | refine blk_drewN ?_ _ | refine blk_drew ?_ | refine blk_alloc ?_ _)); refine blk_put (cs := #[.int .i64 ((rd_T55 l0 x4_1).f0), .int .i64 ((rd_T55 l0 x4_1).f1), .int .i64 0, .int .i64 0, .int .i64 0, .int .i64 0, .int .i64 0, .int .i64 0, .int .i64 0]) ?_ 2 _ rfl; (with_reducible repeat (first | refine blk_drewN ?_ _ | refine blk_drew ?_ | refine blk_alloc ?_ _)); refine blk_put (cs := #[.int .i64 ((rd_T55 l0 x4_1).f0), .int .i64 0, .int .i64 0, .int .i64 0, .int .i64 0, .int .i64 0, .int .i64 0, .int .i64 0, .int .i64 0]) ?_ 1 _ rfl; (with_reducible repeat (first | refine blk_drewN ?_ _ | refine blk_drew ?_ | refine blk_alloc ?_ _)); refine blk_put (cs := #[.int .i64 0, .int .i64 0, .int .i64 0, .int .i64 0, .int .i64 0, .int .i64 0, .int .i64 0, .int .i64 0, .int .i64 0]) ?_ 0 _ rfl; (with_reducible repeat (first | refine blk_drewN ?_ _ | refine blk_drew ?_ | refine blk_alloc ?_ _)); exact BK125.out⟩, ⟨by repeat (first | (with_reducible first | exact HB.out | apply below_alloc | apply pw_below_drewN | apply below_drew1 | refine below_set ?_ GE123.out | refine below_set ?_ GE125.out) | exact HB.out)⟩⟩
            case rest =>
              clear HC8
              try clear c1
              try clear p1
              try clear q1
              try clear hx1
              try clear c2
              try clear p2
              try clear c3
              try clear c4
              try clear c4b0
              try clear c5
              try clear c5b0
              try clear p6
              try clear c7
              try clear c10
              try clear c12
              try clear c12b0
              try clear c12b1
              try clear p12
              try clear q12
              try clear hx12
              try clear c13
              try clear c15
              try clear hcz11_0
              try clear hcz11_1
              try clear hcz11_2
              try clear hcz11_3
              try clear hcz11_4
              try clear hcz11_5
              try clear hcz11_6
              try clear hcz11_7
              try clear hcz11_8
              try clear hcz14_0
              try clear hcz14_1
              try clear hcz14_2
              try clear hcz14_3
              try clear hcz14_4
              try clear hcz14_5
              try clear hcz14_6
              try clear hcz14_7
              try clear hcz14_8
              try clear hcz16_0
              try clear hcz16_1
              try clear hcz16_2
              try clear hcz16_3
              try clear hcz16_4
              try clear hcz16_5
              try clear hcz16_6
              try clear hcz16_7
              try clear hcz16_8
              try clear hcz3_0
              try clear hcz3_1
              try clear hcz3_2
              try clear hcz3_3
              try clear hcz3_4
              try clear hcz3_5
              try clear hcz3_6
              try clear hcz3_7
              try clear hcz3_8
              try clear hfz11_0
              try clear hfz11_1
              try clear hfz11_2
              try clear hfz11_3
              try clear hfz11_4
              try clear hfz11_5
              try clear hfz11_6
              try clear hfz11_7
              try clear hfz11_8
              try clear hfz14_0
              try clear hfz14_1
              try clear hfz14_2
              try clear hfz14_3
              try clear hfz14_4
              try clear hfz14_5
              try clear hfz14_6
              try clear hfz14_7
              try clear hfz14_8
              try clear hfz16_0
              try clear hfz16_1
              try clear hfz16_2
              try clear hfz16_3
              try clear hfz16_4
              try clear hfz16_5
              try clear hfz16_6
              try clear hfz16_7
              try clear hfz16_8
              try clear hfz3_0
              try clear hfz3_1
              try clear hfz3_2
              try clear hfz3_3
              try clear hfz3_4
              try clear hfz3_5
              try clear hfz3_6
              try clear hfz3_7
              try clear hfz3_8
              try clear hx124_0
              try clear hx124_1
              try clear hx124_2
              try clear hx124_3
              try clear hx124_4
              try clear hx124_5
              try clear hx124_6
              try clear hx124_7
              try clear hx124_8
              try clear p124
              try clear p2
              try clear q124
              obtain ⟨kq, x32_7, rfl, HA, HJ7, BK123, BK125, HB⟩ := hcut
              cases kq with
              | zero => exact absurd HA.out (by simp [spec_Owned.j1])
              | succ kj7 =>
                have H := HA.out
                clear HA
                simp only [spec_Owned.j1] at H
                by_cases c17 : x32_7 = true
                · subst c17
                  have H1 : (some false) = some r := by rw [if_pos rfl] at H; exact H
                  clear H
                  have H := H1
                  clear H1
                  obtain rfl := Option.some.inj H
                  go_wp2
                  go_ret
                  exact ⟨by first | rfl | (simp [errW_none, errW_some] <;> rfl) | (simp [*, errW_none, errW_some] <;> rfl), by repeat (first | (with_reducible first | exact HB.out | apply below_alloc | apply pw_below_drewN | apply below_drew1 | refine below_set ?_ GE123.out | refine below_set ?_ GE125.out) | exact HB.out)⟩
                · replace c17 := Bool.eq_false_iff.mpr c17
                  subst c17
                  have H1 : (if ((rd_T55 l0 x4_1).f0) = 8 then (if ((rd_T55 l0 x4_1).f8) = ((rd_T55 l0 x4_1).f2) then (if x124000_1 = 0 then (spec_Owned.j2 kj7 l0 x4_1 false ((rd_T55 l0 x4_1).f0) ((rd_T55 l0 x4_1).f1) ((rd_T55 l0 x4_1).f2) ((rd_T55 l0 x4_1).f3) ((rd_T55 l0 x4_1).f4) ((rd_T55 l0 x4_1).f5) ((rd_T55 l0 x4_1).f6) ((rd_T55 l0 x4_1).f7) ((rd_T55 l0 x4_1).f8)) else (spec_Owned.j2 kj7 l0 x4_1 (decide (((rd_T55 l0 x4_1).f8) ≤ x124008_1)) ((rd_T55 l0 x4_1).f0) ((rd_T55 l0 x4_1).f1) ((rd_T55 l0 x4_1).f2) ((rd_T55 l0 x4_1).f3) ((rd_T55 l0 x4_1).f4) ((rd_T55 l0 x4_1).f5) ((rd_T55 l0 x4_1).f6) ((rd_T55 l0 x4_1).f7) ((rd_T55 l0 x4_1).f8))) else (spec_Owned.j2 kj7 l0 x4_1 true ((rd_T55 l0 x4_1).f0) ((rd_T55 l0 x4_1).f1) ((rd_T55 l0 x4_1).f2) ((rd_T55 l0 x4_1).f3) ((rd_T55 l0 x4_1).f4) ((rd_T55 l0 x4_1).f5) ((rd_T55 l0 x4_1).f6) ((rd_T55 l0 x4_1).f7) ((rd_T55 l0 x4_1).f8))) else (if x124000_1 = 0 then (some false) else (if x124001_1 = ((rd_T55 l0 x4_1).f1) then (if x124008_1 = ((rd_T55 l0 x4_1).f2) then (spec_Owned.l0 kj7 l0 (wrap64 (x4_1 + 1)) x124000_1 x124001_1 x124002_1 x124003_1 x124004_1 x124005_1 x124006_1 x124007_1 x124008_1) else (some false)) else (some false)))) = some r := by rw [if_neg (show ¬ (false = true) by decide)] at H; exact H
                  clear H
                  have H := H1
                  clear H1
                  by_cases c18 : ((rd_T55 l0 x4_1).f0) = 8
                  · rw [if_pos c18] at H
                    have c18b0 : (((rd_T55 l0 x4_1).f0) == 8) = true := beq_iff_eq.mpr c18
                    have c18b1 : (((rd_T55 l0 x4_1).f0) != 8) = false := bne_eq_false_iff_eq.mpr c18
                    clear c18
                    have HC19 := Aside0.mk H
                    clear H
                    have hnb20 := NB125_123.out
                    have hnc20 := NB123_125.out
                    have hcz21_0 : wc.cell? ⟨gb125, 0, none⟩ = some (.int .i64 ((rd_T55 l0 x4_1).f0)) := (blk_cell BK125.out 0).trans rfl
                    have hcz21_1 : wc.cell? ⟨gb125, 1, none⟩ = some (.int .i64 ((rd_T55 l0 x4_1).f1)) := (blk_cell BK125.out 1).trans rfl
                    have hcz21_2 : wc.cell? ⟨gb125, 2, none⟩ = some (.int .i64 ((rd_T55 l0 x4_1).f2)) := (blk_cell BK125.out 2).trans rfl
                    have hcz21_3 : wc.cell? ⟨gb125, 3, none⟩ = some (.int .i64 ((rd_T55 l0 x4_1).f3)) := (blk_cell BK125.out 3).trans rfl
                    have hcz21_4 : wc.cell? ⟨gb125, 4, none⟩ = some (.int .i64 ((rd_T55 l0 x4_1).f4)) := (blk_cell BK125.out 4).trans rfl
                    have hcz21_5 : wc.cell? ⟨gb125, 5, none⟩ = some (.int .i64 ((rd_T55 l0 x4_1).f5)) := (blk_cell BK125.out 5).trans rfl
                    have hcz21_6 : wc.cell? ⟨gb125, 6, none⟩ = some (.int .i64 ((rd_T55 l0 x4_1).f6)) := (blk_cell BK125.out 6).trans rfl
                    have hcz21_7 : wc.cell? ⟨gb125, 7, none⟩ = some (.int .i64 ((rd_T55 l0 x4_1).f7)) := (blk_cell BK125.out 7).trans rfl
                    have hcz21_8 : wc.cell? ⟨gb125, 8, none⟩ = some (.int .i64 ((rd_T55 l0 x4_1).f8)) := (blk_cell BK125.out 8).trans rfl
                    have hfz21_0 := blk_frozen BK125.out 0
                    have hfz21_1 := blk_frozen BK125.out 1
                    have hfz21_2 := blk_frozen BK125.out 2
                    have hfz21_3 := blk_frozen BK125.out 3
                    have hfz21_4 := blk_frozen BK125.out 4
                    have hfz21_5 := blk_frozen BK125.out 5
                    have hfz21_6 := blk_frozen BK125.out 6
                    have hfz21_7 := blk_frozen BK125.out 7
                    have hfz21_8 := blk_frozen BK125.out 8
                    go_upto_region 10 with (fail)
                    go_cut [52] (fun v52 wc => ∃ (kq : Nat) (x52_18 : Bool), v52 = .bool x52_18 ∧ Aside0 (spec_Owned.j2 kq l0 x4_1 x52_18 ((rd_T55 l0 x4_1).f0) ((rd_T55 l0 x4_1).f1) ((rd_T55 l0 x4_1).f2) ((rd_T55 l0 x4_1).f3) ((rd_T55 l0 x4_1).f4) ((rd_T55 l0 x4_1).f5) ((rd_T55 l0 x4_1).f6) ((rd_T55 l0 x4_1).f7) ((rd_T55 l0 x4_1).f8) = some r) ∧ Aside0 (kq ≤ kj7) ∧ Aside0 (wc.heap[gb123]? = some (.cells #[.int .i64 x124000_1, .int .i64 x124001_1, .int .i64 x124002_1, .int .i64 x124003_1, .int .i64 x124004_1, .int .i64 x124005_1, .int .i64 x124006_1, .int .i64 x124007_1, .int .i64 x124008_1] 55 (0, 0))) ∧ Aside0 (wc.heap[gb125]? = some (.cells #[.int .i64 ((rd_T55 l0 x4_1).f0), .int .i64 ((rd_T55 l0 x4_1).f1), .int .i64 ((rd_T55 l0 x4_1).f2), .int .i64 ((rd_T55 l0 x4_1).f3), .int .i64 ((rd_T55 l0 x4_1).f4), .int .i64 ((rd_T55 l0 x4_1).f5), .int .i64 ((rd_T55 l0 x4_1).f6), .int .i64 ((rd_T55 l0 x4_1).f7), .int .i64 ((rd_T55 l0 x4_1).f8)] 55 (0, 0))) ∧ Aside0 (Below w.heap.size w wc))
                    case first =>
                      have H := HC19.out
                      clear HC19
                      by_cases c22 : ((rd_T55 l0 x4_1).f8) = ((rd_T55 l0 x4_1).f2)
                      · rw [if_pos c22] at H
                        have c22b0 : (((rd_T55 l0 x4_1).f8) == ((rd_T55 l0 x4_1).f2)) = true := beq_iff_eq.mpr c22
                        have c22b1 : (((rd_T55 l0 x4_1).f8) != ((rd_T55 l0 x4_1).f2)) = false := bne_eq_false_iff_eq.mpr c22
                        clear c22
                        (first | rw [c22b0] | (simp only [i64_w, i32_w]; rw [c22b0]) | skip)
                        by_cases c23 : x124000_1 = 0
                        · rw [if_pos c23] at H
                          have c23b0 : (x124000_1 == 0) = true := beq_iff_eq.mpr c23
                          have c23b1 : (x124000_1 != 0) = false := bne_eq_false_iff_eq.mpr c23
                          clear c23
                          have H' := Aside0.mk H
                          clear H
                          have hnb24 := NB125_123.out
                          have hnc24 := NB123_125.out
                          have hcz25_0 : wc.cell? ⟨gb125, 0, none⟩ = some (.int .i64 ((rd_T55 l0 x4_1).f0)) := (blk_cell BK125.out 0).trans rfl
                          have hcz25_1 : wc.cell? ⟨gb125, 1, none⟩ = some (.int .i64 ((rd_T55 l0 x4_1).f1)) := (blk_cell BK125.out 1).trans rfl
                          have hcz25_2 : wc.cell? ⟨gb125, 2, none⟩ = some (.int .i64 ((rd_T55 l0 x4_1).f2)) := (blk_cell BK125.out 2).trans rfl
                          have hcz25_3 : wc.cell? ⟨gb125, 3, none⟩ = some (.int .i64 ((rd_T55 l0 x4_1).f3)) := (blk_cell BK125.out 3).trans rfl
                          have hcz25_4 : wc.cell? ⟨gb125, 4, none⟩ = some (.int .i64 ((rd_T55 l0 x4_1).f4)) := (blk_cell BK125.out 4).trans rfl
                          have hcz25_5 : wc.cell? ⟨gb125, 5, none⟩ = some (.int .i64 ((rd_T55 l0 x4_1).f5)) := (blk_cell BK125.out 5).trans rfl
                          have hcz25_6 : wc.cell? ⟨gb125, 6, none⟩ = some (.int .i64 ((rd_T55 l0 x4_1).f6)) := (blk_cell BK125.out 6).trans rfl
                          have hcz25_7 : wc.cell? ⟨gb125, 7, none⟩ = some (.int .i64 ((rd_T55 l0 x4_1).f7)) := (blk_cell BK125.out 7).trans rfl
                          have hcz25_8 : wc.cell? ⟨gb125, 8, none⟩ = some (.int .i64 ((rd_T55 l0 x4_1).f8)) := (blk_cell BK125.out 8).trans rfl
                          have hfz25_0 := blk_frozen BK125.out 0
                          have hfz25_1 := blk_frozen BK125.out 1
                          have hfz25_2 := blk_frozen BK125.out 2
                          have hfz25_3 := blk_frozen BK125.out 3
                          have hfz25_4 := blk_frozen BK125.out 4
                          have hfz25_5 := blk_frozen BK125.out 5
                          have hfz25_6 := blk_frozen BK125.out 6
                          have hfz25_7 := blk_frozen BK125.out 7
                          have hfz25_8 := blk_frozen BK125.out 8
                          have hcz26_0 : wc.cell? ⟨gb123, 0, none⟩ = some (.int .i64 x124000_1) := (blk_cell BK123.out 0).trans rfl
                          have hcz26_1 : wc.cell? ⟨gb123, 1, none⟩ = some (.int .i64 x124001_1) := (blk_cell BK123.out 1).trans rfl
                          have hcz26_2 : wc.cell? ⟨gb123, 2, none⟩ = some (.int .i64 x124002_1) := (blk_cell BK123.out 2).trans rfl
                          have hcz26_3 : wc.cell? ⟨gb123, 3, none⟩ = some (.int .i64 x124003_1) := (blk_cell BK123.out 3).trans rfl
                          have hcz26_4 : wc.cell? ⟨gb123, 4, none⟩ = some (.int .i64 x124004_1) := (blk_cell BK123.out 4).trans rfl
                          have hcz26_5 : wc.cell? ⟨gb123, 5, none⟩ = some (.int .i64 x124005_1) := (blk_cell BK123.out 5).trans rfl
                          have hcz26_6 : wc.cell? ⟨gb123, 6, none⟩ = some (.int .i64 x124006_1) := (blk_cell BK123.out 6).trans rfl
                          have hcz26_7 : wc.cell? ⟨gb123, 7, none⟩ = some (.int .i64 x124007_1) := (blk_cell BK123.out 7).trans rfl
                          have hcz26_8 : wc.cell? ⟨gb123, 8, none⟩ = some (.int .i64 x124008_1) := (blk_cell BK123.out 8).trans rfl
                          have hfz26_0 := blk_frozen BK123.out 0
                          have hfz26_1 := blk_frozen BK123.out 1
                          have hfz26_2 := blk_frozen BK123.out 2
                          have hfz26_3 := blk_frozen BK123.out 3
                          have hfz26_4 := blk_frozen BK123.out 4
                          have hfz26_5 := blk_frozen BK123.out 5
                          have hfz26_6 := blk_frozen BK123.out 6
                          have hfz26_7 := blk_frozen BK123.out 7
                          have hfz26_8 := blk_frozen BK123.out 8
                          go_wp2
                          go_meet
                          case rel => exact ⟨_, (false), (by first | rfl | (simp; done) | (simp [*]; done)), H', ⟨by have := HK1.out; have := HJ7.out; first | omega | exact Nat.le_refl _⟩, ⟨by (with_reducible repeat (first | refine blk_drewN ?_ _ | refine blk_drew ?_ | refine blk_alloc ?_ _)); exact BK123.out⟩, ⟨by (with_reducible repeat (first | refine blk_drewN ?_ _ | refine blk_drew ?_ | refine blk_alloc ?_ _)); exact BK125.out⟩, ⟨by repeat (first | (with_reducible first | exact HB.out | apply below_alloc | apply pw_below_drewN | apply below_drew1 | refine below_set ?_ GE123.out | refine below_set ?_ GE125.out) | exact HB.out)⟩⟩
                        · rw [if_neg c23] at H
                          have c23b0 : (x124000_1 == 0) = false := beq_eq_false_iff_ne.mpr c23
                          have c23b1 : (x124000_1 != 0) = true := bne_iff_ne.mpr c23
                          have H' := Aside0.mk H
                          clear H
                          have hnb27 := NB125_123.out
                          have hnc27 := NB123_125.out
                          have hcz28_0 : wc.cell? ⟨gb125, 0, none⟩ = some (.int .i64 ((rd_T55 l0 x4_1).f0)) := (blk_cell BK125.out 0).trans rfl
                          have hcz28_1 : wc.cell? ⟨gb125, 1, none⟩ = some (.int .i64 ((rd_T55 l0 x4_1).f1)) := (blk_cell BK125.out 1).trans rfl
                          have hcz28_2 : wc.cell? ⟨gb125, 2, none⟩ = some (.int .i64 ((rd_T55 l0 x4_1).f2)) := (blk_cell BK125.out 2).trans rfl
                          have hcz28_3 : wc.cell? ⟨gb125, 3, none⟩ = some (.int .i64 ((rd_T55 l0 x4_1).f3)) := (blk_cell BK125.out 3).trans rfl
                          have hcz28_4 : wc.cell? ⟨gb125, 4, none⟩ = some (.int .i64 ((rd_T55 l0 x4_1).f4)) := (blk_cell BK125.out 4).trans rfl
                          have hcz28_5 : wc.cell? ⟨gb125, 5, none⟩ = some (.int .i64 ((rd_T55 l0 x4_1).f5)) := (blk_cell BK125.out 5).trans rfl
                          have hcz28_6 : wc.cell? ⟨gb125, 6, none⟩ = some (.int .i64 ((rd_T55 l0 x4_1).f6)) := (blk_cell BK125.out 6).trans rfl
                          have hcz28_7 : wc.cell? ⟨gb125, 7, none⟩ = some (.int .i64 ((rd_T55 l0 x4_1).f7)) := (blk_cell BK125.out 7).trans rfl
                          have hcz28_8 : wc.cell? ⟨gb125, 8, none⟩ = some (.int .i64 ((rd_T55 l0 x4_1).f8)) := (blk_cell BK125.out 8).trans rfl
                          have hfz28_0 := blk_frozen BK125.out 0
                          have hfz28_1 := blk_frozen BK125.out 1
                          have hfz28_2 := blk_frozen BK125.out 2
                          have hfz28_3 := blk_frozen BK125.out 3
                          have hfz28_4 := blk_frozen BK125.out 4
                          have hfz28_5 := blk_frozen BK125.out 5
                          have hfz28_6 := blk_frozen BK125.out 6
                          have hfz28_7 := blk_frozen BK125.out 7
                          have hfz28_8 := blk_frozen BK125.out 8
                          have hcz29_0 : wc.cell? ⟨gb123, 0, none⟩ = some (.int .i64 x124000_1) := (blk_cell BK123.out 0).trans rfl
                          have hcz29_1 : wc.cell? ⟨gb123, 1, none⟩ = some (.int .i64 x124001_1) := (blk_cell BK123.out 1).trans rfl
                          have hcz29_2 : wc.cell? ⟨gb123, 2, none⟩ = some (.int .i64 x124002_1) := (blk_cell BK123.out 2).trans rfl
                          have hcz29_3 : wc.cell? ⟨gb123, 3, none⟩ = some (.int .i64 x124003_1) := (blk_cell BK123.out 3).trans rfl
                          have hcz29_4 : wc.cell? ⟨gb123, 4, none⟩ = some (.int .i64 x124004_1) := (blk_cell BK123.out 4).trans rfl
                          have hcz29_5 : wc.cell? ⟨gb123, 5, none⟩ = some (.int .i64 x124005_1) := (blk_cell BK123.out 5).trans rfl
                          have hcz29_6 : wc.cell? ⟨gb123, 6, none⟩ = some (.int .i64 x124006_1) := (blk_cell BK123.out 6).trans rfl
                          have hcz29_7 : wc.cell? ⟨gb123, 7, none⟩ = some (.int .i64 x124007_1) := (blk_cell BK123.out 7).trans rfl
                          have hcz29_8 : wc.cell? ⟨gb123, 8, none⟩ = some (.int .i64 x124008_1) := (blk_cell BK123.out 8).trans rfl
                          have hfz29_0 := blk_frozen BK123.out 0
                          have hfz29_1 := blk_frozen BK123.out 1
                          have hfz29_2 := blk_frozen BK123.out 2
                          have hfz29_3 := blk_frozen BK123.out 3
                          have hfz29_4 := blk_frozen BK123.out 4
                          have hfz29_5 := blk_frozen BK123.out 5
                          have hfz29_6 := blk_frozen BK123.out 6
                          have hfz29_7 := blk_frozen BK123.out 7
                          have hfz29_8 := blk_frozen BK123.out 8
                          go_wp2
                          go_meet
                          case rel => exact ⟨_, (decide (((rd_T55 l0 x4_1).f8) ≤ x124008_1)), (by first | rfl | (simp; done) | (simp [*]; done)), H', ⟨by have := HK1.out; have := HJ7.out; first | omega | exact Nat.le_refl _⟩, ⟨by (with_reducible repeat (first | refine blk_drewN ?_ _ | refine blk_drew ?_ | refine blk_alloc ?_ _)); exact BK123.out⟩, ⟨by (with_reducible repeat (first | refine blk_drewN ?_ _ | refine blk_drew ?_ | refine blk_alloc ?_ _)); exact BK125.out⟩, ⟨by repeat (first | (with_reducible first | exact HB.out | apply below_alloc | apply pw_below_drewN | apply below_drew1 | refine below_set ?_ GE123.out | refine below_set ?_ GE125.out) | exact HB.out)⟩⟩
                      · rw [if_neg c22] at H
                        have c22b0 : (((rd_T55 l0 x4_1).f8) == ((rd_T55 l0 x4_1).f2)) = false := beq_eq_false_iff_ne.mpr c22
                        have c22b1 : (((rd_T55 l0 x4_1).f8) != ((rd_T55 l0 x4_1).f2)) = true := bne_iff_ne.mpr c22
                        (first | rw [c22b0] | (simp only [i64_w, i32_w]; rw [c22b0]) | skip)
                        have H' := Aside0.mk H
                        clear H
                        have hnb30 := NB125_123.out
                        have hnc30 := NB123_125.out
                        have hcz31_0 : wc.cell? ⟨gb125, 0, none⟩ = some (.int .i64 ((rd_T55 l0 x4_1).f0)) := (blk_cell BK125.out 0).trans rfl
                        have hcz31_1 : wc.cell? ⟨gb125, 1, none⟩ = some (.int .i64 ((rd_T55 l0 x4_1).f1)) := (blk_cell BK125.out 1).trans rfl
                        have hcz31_2 : wc.cell? ⟨gb125, 2, none⟩ = some (.int .i64 ((rd_T55 l0 x4_1).f2)) := (blk_cell BK125.out 2).trans rfl
                        have hcz31_3 : wc.cell? ⟨gb125, 3, none⟩ = some (.int .i64 ((rd_T55 l0 x4_1).f3)) := (blk_cell BK125.out 3).trans rfl
                        have hcz31_4 : wc.cell? ⟨gb125, 4, none⟩ = some (.int .i64 ((rd_T55 l0 x4_1).f4)) := (blk_cell BK125.out 4).trans rfl
                        have hcz31_5 : wc.cell? ⟨gb125, 5, none⟩ = some (.int .i64 ((rd_T55 l0 x4_1).f5)) := (blk_cell BK125.out 5).trans rfl
                        have hcz31_6 : wc.cell? ⟨gb125, 6, none⟩ = some (.int .i64 ((rd_T55 l0 x4_1).f6)) := (blk_cell BK125.out 6).trans rfl
                        have hcz31_7 : wc.cell? ⟨gb125, 7, none⟩ = some (.int .i64 ((rd_T55 l0 x4_1).f7)) := (blk_cell BK125.out 7).trans rfl
                        have hcz31_8 : wc.cell? ⟨gb125, 8, none⟩ = some (.int .i64 ((rd_T55 l0 x4_1).f8)) := (blk_cell BK125.out 8).trans rfl
                        have hfz31_0 := blk_frozen BK125.out 0
                        have hfz31_1 := blk_frozen BK125.out 1
                        have hfz31_2 := blk_frozen BK125.out 2
                        have hfz31_3 := blk_frozen BK125.out 3
                        have hfz31_4 := blk_frozen BK125.out 4
                        have hfz31_5 := blk_frozen BK125.out 5
                        have hfz31_6 := blk_frozen BK125.out 6
                        have hfz31_7 := blk_frozen BK125.out 7
                        have hfz31_8 := blk_frozen BK125.out 8
                        go_wp2
                        go_meet
                        case rel => exact ⟨_, (true), (by first | rfl | (simp; done) | (simp [*]; done)), H', ⟨by have := HK1.out; have := HJ7.out; first | omega | exact Nat.le_refl _⟩, ⟨by (with_reducible repeat (first | refine blk_drewN ?_ _ | refine blk_drew ?_ | refine blk_alloc ?_ _)); exact BK123.out⟩, ⟨by (with_reducible repeat (first | refine blk_drewN ?_ _ | refine blk_drew ?_ | refine blk_alloc ?_ _)); exact BK125.out⟩, ⟨by repeat (first | (with_reducible first | exact HB.out | apply below_alloc | apply pw_below_drewN | apply below_drew1 | refine below_set ?_ GE123.out | refine below_set ?_ GE125.out) | exact HB.out)⟩⟩
                    case rest =>
                      clear HC19
                      try clear c1
                      try clear p1
                      try clear q1
                      try clear hx1
                      try clear c2
                      try clear p2
                      try clear c3
                      try clear c4
                      try clear c4b0
                      try clear c5
                      try clear c5b0
                      try clear p6
                      try clear c7
                      try clear c10
                      try clear c12
                      try clear c12b0
                      try clear c12b1
                      try clear p12
                      try clear q12
                      try clear hx12
                      try clear c13
                      try clear c15
                      try clear c17
                      try clear c18
                      try clear c18b0
                      try clear c18b1
                      try clear c20
                      try clear c21
                      try clear c22
                      try clear c22b0
                      try clear c22b1
                      try clear c23
                      try clear c23b0
                      try clear c23b1
                      try clear c24
                      try clear c27
                      try clear c30
                      try clear c31
                      try clear hcz11_0
                      try clear hcz11_1
                      try clear hcz11_2
                      try clear hcz11_3
                      try clear hcz11_4
                      try clear hcz11_5
                      try clear hcz11_6
                      try clear hcz11_7
                      try clear hcz11_8
                      try clear hcz14_0
                      try clear hcz14_1
                      try clear hcz14_2
                      try clear hcz14_3
                      try clear hcz14_4
                      try clear hcz14_5
                      try clear hcz14_6
                      try clear hcz14_7
                      try clear hcz14_8
                      try clear hcz16_0
                      try clear hcz16_1
                      try clear hcz16_2
                      try clear hcz16_3
                      try clear hcz16_4
                      try clear hcz16_5
                      try clear hcz16_6
                      try clear hcz16_7
                      try clear hcz16_8
                      try clear hcz21_0
                      try clear hcz21_1
                      try clear hcz21_2
                      try clear hcz21_3
                      try clear hcz21_4
                      try clear hcz21_5
                      try clear hcz21_6
                      try clear hcz21_7
                      try clear hcz21_8
                      try clear hcz25_0
                      try clear hcz25_1
                      try clear hcz25_2
                      try clear hcz25_3
                      try clear hcz25_4
                      try clear hcz25_5
                      try clear hcz25_6
                      try clear hcz25_7
                      try clear hcz25_8
                      try clear hcz26_0
                      try clear hcz26_1
                      try clear hcz26_2
                      try clear hcz26_3
                      try clear hcz26_4
                      try clear hcz26_5
                      try clear hcz26_6
                      try clear hcz26_7
                      try clear hcz26_8
                      try clear hcz28_0
                      try clear hcz28_1
                      try clear hcz28_2
                      try clear hcz28_3
                      try clear hcz28_4
                      try clear hcz28_5
                      try clear hcz28_6
                      try clear hcz28_7
                      try clear hcz28_8
                      try clear hcz29_0
                      try clear hcz29_1
                      try clear hcz29_2
                      try clear hcz29_3
                      try clear hcz29_4
                      try clear hcz29_5
                      try clear hcz29_6
                      try clear hcz29_7
                      try clear hcz29_8
                      try clear hcz31_0
                      try clear hcz31_1
                      try clear hcz31_2
                      try clear hcz31_3
                      try clear hcz31_4
                      try clear hcz31_5
                      try clear hcz31_6
                      try clear hcz31_7
                      try clear hcz31_8
                      try clear hcz3_0
                      try clear hcz3_1
                      try clear hcz3_2
                      try clear hcz3_3
                      try clear hcz3_4
                      try clear hcz3_5
                      try clear hcz3_6
                      try clear hcz3_7
                      try clear hcz3_8
                      try clear hfz11_0
                      try clear hfz11_1
                      try clear hfz11_2
                      try clear hfz11_3
                      try clear hfz11_4
                      try clear hfz11_5
                      try clear hfz11_6
                      try clear hfz11_7
                      try clear hfz11_8
                      try clear hfz14_0
                      try clear hfz14_1
                      try clear hfz14_2
                      try clear hfz14_3
                      try clear hfz14_4
                      try clear hfz14_5
                      try clear hfz14_6
                      try clear hfz14_7
                      try clear hfz14_8
                      try clear hfz16_0
                      try clear hfz16_1
                      try clear hfz16_2
                      try clear hfz16_3
                      try clear hfz16_4
                      try clear hfz16_5
                      try clear hfz16_6
                      try clear hfz16_7
                      try clear hfz16_8
                      try clear hfz21_0
                      try clear hfz21_1
                      try clear hfz21_2
                      try clear hfz21_3
                      try clear hfz21_4
                      try clear hfz21_5
                      try clear hfz21_6
                      try clear hfz21_7
                      try clear hfz21_8
                      try clear hfz25_0
                      try clear hfz25_1
                      try clear hfz25_2
                      try clear hfz25_3
                      try clear hfz25_4
                      try clear hfz25_5
                      try clear hfz25_6
                      try clear hfz25_7
                      try clear hfz25_8
                      try clear hfz26_0
                      try clear hfz26_1
                      try clear hfz26_2
                      try clear hfz26_3
                      try clear hfz26_4
                      try clear hfz26_5
                      try clear hfz26_6
                      try clear hfz26_7
                      try clear hfz26_8
                      try clear hfz28_0
                      try clear hfz28_1
                      try clear hfz28_2
                      try clear hfz28_3
                      try clear hfz28_4
                      try clear hfz28_5
                      try clear hfz28_6
                      try clear hfz28_7
                      try clear hfz28_8
                      try clear hfz29_0
                      try clear hfz29_1
                      try clear hfz29_2
                      try clear hfz29_3
                      try clear hfz29_4
                      try clear hfz29_5
                      try clear hfz29_6
                      try clear hfz29_7
                      try clear hfz29_8
                      try clear hfz31_0
                      try clear hfz31_1
                      try clear hfz31_2
                      try clear hfz31_3
                      try clear hfz31_4
                      try clear hfz31_5
                      try clear hfz31_6
                      try clear hfz31_7
                      try clear hfz31_8
                      try clear hfz3_0
                      try clear hfz3_1
                      try clear hfz3_2
                      try clear hfz3_3
                      try clear hfz3_4
                      try clear hfz3_5
                      try clear hfz3_6
                      try clear hfz3_7
                      try clear hfz3_8
                      try clear hx124_0
                      try clear hx124_1
                      try clear hx124_2
                      try clear hx124_3
                      try clear hx124_4
                      try clear hx124_5
                      try clear hx124_6
                      try clear hx124_7
                      try clear hx124_8
                      try clear p1
                      try clear p12
                      try clear p124
                      try clear p2
                      try clear p6
                      try clear q1
                      try clear q12
                      try clear q124
                      obtain ⟨kq, x52_18, rfl, HA, HJ18, BK123, BK125, HB⟩ := hcut
                      cases kq with
                      | zero => exact absurd HA.out (by simp [spec_Owned.j2])
                      | succ kj18 =>
                        have H := HA.out
                        clear HA
                        simp only [spec_Owned.j2] at H
                        by_cases c32 : x52_18 = true
                        · subst c32
                          have H1 : (some false) = some r := by rw [if_pos rfl] at H; exact H
                          clear H
                          have H := H1
                          clear H1
                          obtain rfl := Option.some.inj H
                          go_wp2
                          go_ret
                          exact ⟨by first | rfl | (simp [errW_none, errW_some] <;> rfl) | (simp [*, errW_none, errW_some] <;> rfl), by repeat (first | (with_reducible first | exact HB.out | apply below_alloc | apply pw_below_drewN | apply below_drew1 | refine below_set ?_ GE123.out | refine below_set ?_ GE125.out) | exact HB.out)⟩
                        · replace c32 := Bool.eq_false_iff.mpr c32
                          subst c32
                          have H1 : (spec_Owned.l0 kj18 l0 (wrap64 (x4_1 + 1)) ((rd_T55 l0 x4_1).f0) ((rd_T55 l0 x4_1).f1) ((rd_T55 l0 x4_1).f2) ((rd_T55 l0 x4_1).f3) ((rd_T55 l0 x4_1).f4) ((rd_T55 l0 x4_1).f5) ((rd_T55 l0 x4_1).f6) ((rd_T55 l0 x4_1).f7) ((rd_T55 l0 x4_1).f8)) = some r := by rw [if_neg (show ¬ (false = true) by decide)] at H; exact H
                          clear H
                          have H := H1
                          clear H1
                          have H' := Aside0.mk H
                          clear H
                          have hnb33 := NB125_123.out
                          have hnc33 := NB123_125.out
                          have hcz34_0 : wc.cell? ⟨gb125, 0, none⟩ = some (.int .i64 ((rd_T55 l0 x4_1).f0)) := (blk_cell BK125.out 0).trans rfl
                          have hcz34_1 : wc.cell? ⟨gb125, 1, none⟩ = some (.int .i64 ((rd_T55 l0 x4_1).f1)) := (blk_cell BK125.out 1).trans rfl
                          have hcz34_2 : wc.cell? ⟨gb125, 2, none⟩ = some (.int .i64 ((rd_T55 l0 x4_1).f2)) := (blk_cell BK125.out 2).trans rfl
                          have hcz34_3 : wc.cell? ⟨gb125, 3, none⟩ = some (.int .i64 ((rd_T55 l0 x4_1).f3)) := (blk_cell BK125.out 3).trans rfl
                          have hcz34_4 : wc.cell? ⟨gb125, 4, none⟩ = some (.int .i64 ((rd_T55 l0 x4_1).f4)) := (blk_cell BK125.out 4).trans rfl
                          have hcz34_5 : wc.cell? ⟨gb125, 5, none⟩ = some (.int .i64 ((rd_T55 l0 x4_1).f5)) := (blk_cell BK125.out 5).trans rfl
                          have hcz34_6 : wc.cell? ⟨gb125, 6, none⟩ = some (.int .i64 ((rd_T55 l0 x4_1).f6)) := (blk_cell BK125.out 6).trans rfl
                          have hcz34_7 : wc.cell? ⟨gb125, 7, none⟩ = some (.int .i64 ((rd_T55 l0 x4_1).f7)) := (blk_cell BK125.out 7).trans rfl
                          have hcz34_8 : wc.cell? ⟨gb125, 8, none⟩ = some (.int .i64 ((rd_T55 l0 x4_1).f8)) := (blk_cell BK125.out 8).trans rfl
                          have hfz34_0 := blk_frozen BK125.out 0
                          have hfz34_1 := blk_frozen BK125.out 1
                          have hfz34_2 := blk_frozen BK125.out 2
                          have hfz34_3 := blk_frozen BK125.out 3
                          have hfz34_4 := blk_frozen BK125.out 4
                          have hfz34_5 := blk_frozen BK125.out 5
                          have hfz34_6 := blk_frozen BK125.out 6
                          have hfz34_7 := blk_frozen BK125.out 7
                          have hfz34_8 := blk_frozen BK125.out 8
                          have hcz35_0 : wc.cell? ⟨gb123, 0, none⟩ = some (.int .i64 x124000_1) := (blk_cell BK123.out 0).trans rfl
                          have hcz35_1 : wc.cell? ⟨gb123, 1, none⟩ = some (.int .i64 x124001_1) := (blk_cell BK123.out 1).trans rfl
                          have hcz35_2 : wc.cell? ⟨gb123, 2, none⟩ = some (.int .i64 x124002_1) := (blk_cell BK123.out 2).trans rfl
                          have hcz35_3 : wc.cell? ⟨gb123, 3, none⟩ = some (.int .i64 x124003_1) := (blk_cell BK123.out 3).trans rfl
                          have hcz35_4 : wc.cell? ⟨gb123, 4, none⟩ = some (.int .i64 x124004_1) := (blk_cell BK123.out 4).trans rfl
                          have hcz35_5 : wc.cell? ⟨gb123, 5, none⟩ = some (.int .i64 x124005_1) := (blk_cell BK123.out 5).trans rfl
                          have hcz35_6 : wc.cell? ⟨gb123, 6, none⟩ = some (.int .i64 x124006_1) := (blk_cell BK123.out 6).trans rfl
                          have hcz35_7 : wc.cell? ⟨gb123, 7, none⟩ = some (.int .i64 x124007_1) := (blk_cell BK123.out 7).trans rfl
                          have hcz35_8 : wc.cell? ⟨gb123, 8, none⟩ = some (.int .i64 x124008_1) := (blk_cell BK123.out 8).trans rfl
                          have hfz35_0 := blk_frozen BK123.out 0
                          have hfz35_1 := blk_frozen BK123.out 1
                          have hfz35_2 := blk_frozen BK123.out 2
                          have hfz35_3 := blk_frozen BK123.out 3
                          have hfz35_4 := blk_frozen BK123.out 4
                          have hfz35_5 := blk_frozen BK123.out 5
                          have hfz35_6 := blk_frozen BK123.out 6
                          have hfz35_7 := blk_frozen BK123.out 7
                          have hfz35_8 := blk_frozen BK123.out 8
                          go_wp2
                          go_roundg kj18
                          case measure => have := HK1.out; have := HJ7.out; have := HJ18.out; omega
                          case rel => exact ⟨(wrap64 (x4_1 + 1)), (((rd_T55 l0 x4_1).f0)), (((rd_T55 l0 x4_1).f1)), (((rd_T55 l0 x4_1).f2)), (((rd_T55 l0 x4_1).f3)), (((rd_T55 l0 x4_1).f4)), (((rd_T55 l0 x4_1).f5)), (((rd_T55 l0 x4_1).f6)), (((rd_T55 l0 x4_1).f7)), (((rd_T55 l0 x4_1).f8)), (by first | rfl | (simp; done) | (simp [*]; done)), H', ⟨by have := HK1.out; have := HJ7.out; have := HJ18.out; omega⟩, ⟨by (with_reducible repeat (first | refine blk_drewN ?_ _ | refine blk_drew ?_ | refine blk_alloc ?_ _)); refine blk_put (cs := #[.int .i64 ((rd_T55 l0 x4_1).f0), .int .i64 ((rd_T55 l0 x4_1).f1), .int .i64 ((rd_T55 l0 x4_1).f2), .int .i64 ((rd_T55 l0 x4_1).f3), .int .i64 ((rd_T55 l0 x4_1).f4), .int .i64 ((rd_T55 l0 x4_1).f5), .int .i64 ((rd_T55 l0 x4_1).f6), .int .i64 ((rd_T55 l0 x4_1).f7), .int .i64 x124008_1]) ?_ 8 _ rfl; (with_reducible repeat (first | refine blk_drewN ?_ _ | refine blk_drew ?_ | refine blk_alloc ?_ _)); refine blk_put (cs := #[.int .i64 ((rd_T55 l0 x4_1).f0), .int .i64 ((rd_T55 l0 x4_1).f1), .int .i64 ((rd_T55 l0 x4_1).f2), .int .i64 ((rd_T55 l0 x4_1).f3), .int .i64 ((rd_T55 l0 x4_1).f4), .int .i64 ((rd_T55 l0 x4_1).f5), .int .i64 ((rd_T55 l0 x4_1).f6), .int .i64 x124007_1, .int .i64 x124008_1]) ?_ 7 _ rfl; (with_reducible repeat (first | refine blk_drewN ?_ _ | refine blk_drew ?_ | refine blk_alloc ?_ _)); refine blk_put (cs := #[.int .i64 ((rd_T55 l0 x4_1).f0), .int .i64 ((rd_T55 l0 x4_1).f1), .int .i64 ((rd_T55 l0 x4_1).f2), .int .i64 ((rd_T55 l0 x4_1).f3), .int .i64 ((rd_T55 l0 x4_1).f4), .int .i64 ((rd_T55 l0 x4_1).f5), .int .i64 x124006_1, .int .i64 x124007_1, .int .i64 x124008_1]) ?_ 6 _ rfl; (with_reducible repeat (first | refine blk_drewN ?_ _ | refine blk_drew ?_ | refine blk_alloc ?_ _)); refine blk_put (cs := #[.int .i64 ((rd_T55 l0 x4_1).f0), .int .i64 ((rd_T55 l0 x4_1).f1), .int .i64 ((rd_T55 l0 x4_1).f2), .int .i64 ((rd_T55 l0 x4_1).f3), .int .i64 ((rd_T55 l0 x4_1).f4), .int .i64 x124005_1, .int .i64 x124006_1, .int .i64 x124007_1, .int .i64 x124008_1]) ?_ 5 _ rfl; (with_reducible repeat (first | refine blk_drewN ?_ _ | refine blk_drew ?_ | refine blk_alloc ?_ _)); refine blk_put (cs := #[.int .i64 ((rd_T55 l0 x4_1).f0), .int .i64 ((rd_T55 l0 x4_1).f1), .int .i64 ((rd_T55 l0 x4_1).f2), .int .i64 ((rd_T55 l0 x4_1).f3), .int .i64 x124004_1, .int .i64 x124005_1, .int .i64 x124006_1, .int .i64 x124007_1, .int .i64 x124008_1]) ?_ 4 _ rfl; (with_reducible repeat (first | refine blk_drewN ?_ _ | refine blk_drew ?_ | refine blk_alloc ?_ _)); refine blk_put (cs := #[.int .i64 ((rd_T55 l0 x4_1).f0), .int .i64 ((rd_T55 l0 x4_1).f1), .int .i64 ((rd_T55 l0 x4_1).f2), .int .i64 x124003_1, .int .i64 x124004_1, .int .i64 x124005_1, .int .i64 x124006_1, .int .i64 x124007_1, .int .i64 x124008_1]) ?_ 3 _ rfl; (with_reducible repeat (first | refine blk_drewN ?_ _ | refine blk_drew ?_ | refine blk_alloc ?_ _)); refine blk_put (cs := #[.int .i64 ((rd_T55 l0 x4_1).f0), .int .i64 ((rd_T55 l0 x4_1).f1), .int .i64 x124002_1, .int .i64 x124003_1, .int .i64 x124004_1, .int .i64 x124005_1, .int .i64 x124006_1, .int .i64 x124007_1, .int .i64 x124008_1]) ?_ 2 _ rfl; (with_reducible repeat (first | refine blk_drewN ?_ _ | refine blk_drew ?_ | refine blk_alloc ?_ _)); refine blk_put (cs := #[.int .i64 ((rd_T55 l0 x4_1).f0), .int .i64 x124001_1, .int .i64 x124002_1, .int .i64 x124003_1, .int .i64 x124004_1, .int .i64 x124005_1, .int .i64 x124006_1, .int .i64 x124007_1, .int .i64 x124008_1]) ?_ 1 _ rfl; (with_reducible repeat (first | refine blk_drewN ?_ _ | refine blk_drew ?_ | refine blk_alloc ?_ _)); refine blk_put (cs := #[.int .i64 x124000_1, .int .i64 x124001_1, .int .i64 x124002_1, .int .i64 x124003_1, .int .i64 x124004_1, .int .i64 x124005_1, .int .i64 x124006_1, .int .i64 x124007_1, .int .i64 x124008_1]) ?_ 0 _ rfl; (with_reducible repeat (first | refine blk_drewN ?_ _ | refine blk_drew ?_ | refine blk_alloc ?_ _)); exact BK123.out⟩, ⟨by repeat (first | (with_reducible first | exact HB.out | apply below_alloc | apply pw_below_drewN | apply below_drew1 | refine below_set ?_ GE123.out | refine below_set ?_ GE125.out) | exact HB.out)⟩⟩
                  · rw [if_neg c18] at H
                    have c18b0 : (((rd_T55 l0 x4_1).f0) == 8) = false := beq_eq_false_iff_ne.mpr c18
                    have c18b1 : (((rd_T55 l0 x4_1).f0) != 8) = true := bne_iff_ne.mpr c18
                    by_cases c36 : x124000_1 = 0
                    · rw [if_pos c36] at H
                      have c36b0 : (x124000_1 == 0) = true := beq_iff_eq.mpr c36
                      have c36b1 : (x124000_1 != 0) = false := bne_eq_false_iff_eq.mpr c36
                      clear c36
                      obtain rfl := Option.some.inj H
                      have hnb37 := NB125_123.out
                      have hnc37 := NB123_125.out
                      have hcz38_0 : wc.cell? ⟨gb125, 0, none⟩ = some (.int .i64 ((rd_T55 l0 x4_1).f0)) := (blk_cell BK125.out 0).trans rfl
                      have hcz38_1 : wc.cell? ⟨gb125, 1, none⟩ = some (.int .i64 ((rd_T55 l0 x4_1).f1)) := (blk_cell BK125.out 1).trans rfl
                      have hcz38_2 : wc.cell? ⟨gb125, 2, none⟩ = some (.int .i64 ((rd_T55 l0 x4_1).f2)) := (blk_cell BK125.out 2).trans rfl
                      have hcz38_3 : wc.cell? ⟨gb125, 3, none⟩ = some (.int .i64 ((rd_T55 l0 x4_1).f3)) := (blk_cell BK125.out 3).trans rfl
                      have hcz38_4 : wc.cell? ⟨gb125, 4, none⟩ = some (.int .i64 ((rd_T55 l0 x4_1).f4)) := (blk_cell BK125.out 4).trans rfl
                      have hcz38_5 : wc.cell? ⟨gb125, 5, none⟩ = some (.int .i64 ((rd_T55 l0 x4_1).f5)) := (blk_cell BK125.out 5).trans rfl
                      have hcz38_6 : wc.cell? ⟨gb125, 6, none⟩ = some (.int .i64 ((rd_T55 l0 x4_1).f6)) := (blk_cell BK125.out 6).trans rfl
                      have hcz38_7 : wc.cell? ⟨gb125, 7, none⟩ = some (.int .i64 ((rd_T55 l0 x4_1).f7)) := (blk_cell BK125.out 7).trans rfl
                      have hcz38_8 : wc.cell? ⟨gb125, 8, none⟩ = some (.int .i64 ((rd_T55 l0 x4_1).f8)) := (blk_cell BK125.out 8).trans rfl
                      have hfz38_0 := blk_frozen BK125.out 0
                      have hfz38_1 := blk_frozen BK125.out 1
                      have hfz38_2 := blk_frozen BK125.out 2
                      have hfz38_3 := blk_frozen BK125.out 3
                      have hfz38_4 := blk_frozen BK125.out 4
                      have hfz38_5 := blk_frozen BK125.out 5
                      have hfz38_6 := blk_frozen BK125.out 6
                      have hfz38_7 := blk_frozen BK125.out 7
                      have hfz38_8 := blk_frozen BK125.out 8
                      have hcz39_0 : wc.cell? ⟨gb123, 0, none⟩ = some (.int .i64 x124000_1) := (blk_cell BK123.out 0).trans rfl
                      have hcz39_1 : wc.cell? ⟨gb123, 1, none⟩ = some (.int .i64 x124001_1) := (blk_cell BK123.out 1).trans rfl
                      have hcz39_2 : wc.cell? ⟨gb123, 2, none⟩ = some (.int .i64 x124002_1) := (blk_cell BK123.out 2).trans rfl
                      have hcz39_3 : wc.cell? ⟨gb123, 3, none⟩ = some (.int .i64 x124003_1) := (blk_cell BK123.out 3).trans rfl
                      have hcz39_4 : wc.cell? ⟨gb123, 4, none⟩ = some (.int .i64 x124004_1) := (blk_cell BK123.out 4).trans rfl
                      have hcz39_5 : wc.cell? ⟨gb123, 5, none⟩ = some (.int .i64 x124005_1) := (blk_cell BK123.out 5).trans rfl
                      have hcz39_6 : wc.cell? ⟨gb123, 6, none⟩ = some (.int .i64 x124006_1) := (blk_cell BK123.out 6).trans rfl
                      have hcz39_7 : wc.cell? ⟨gb123, 7, none⟩ = some (.int .i64 x124007_1) := (blk_cell BK123.out 7).trans rfl
                      have hcz39_8 : wc.cell? ⟨gb123, 8, none⟩ = some (.int .i64 x124008_1) := (blk_cell BK123.out 8).trans rfl
                      have hfz39_0 := blk_frozen BK123.out 0
                      have hfz39_1 := blk_frozen BK123.out 1
                      have hfz39_2 := blk_frozen BK123.out 2
                      have hfz39_3 := blk_frozen BK123.out 3
                      have hfz39_4 := blk_frozen BK123.out 4
                      have hfz39_5 := blk_frozen BK123.out 5
                      have hfz39_6 := blk_frozen BK123.out 6
                      have hfz39_7 := blk_frozen BK123.out 7
                      have hfz39_8 := blk_frozen BK123.out 8
                      go_wp2
                      go_ret
                      exact ⟨by first | rfl | (simp [errW_none, errW_some] <;> rfl) | (simp [*, errW_none, errW_some] <;> rfl), by repeat (first | (with_reducible first | exact HB.out | apply below_alloc | apply pw_below_drewN | apply below_drew1 | refine below_set ?_ GE123.out | refine below_set ?_ GE125.out) | exact HB.out)⟩
                    · rw [if_neg c36] at H
                      have c36b0 : (x124000_1 == 0) = false := beq_eq_false_iff_ne.mpr c36
                      have c36b1 : (x124000_1 != 0) = true := bne_iff_ne.mpr c36
                      by_cases c40 : x124001_1 = ((rd_T55 l0 x4_1).f1)
                      · rw [if_pos c40] at H
                        have c40b0 : (x124001_1 == ((rd_T55 l0 x4_1).f1)) = true := beq_iff_eq.mpr c40
                        have c40b1 : (x124001_1 != ((rd_T55 l0 x4_1).f1)) = false := bne_eq_false_iff_eq.mpr c40
                        clear c40
                        by_cases c41 : x124008_1 = ((rd_T55 l0 x4_1).f2)
                        · rw [if_pos c41] at H
                          have c41b0 : (x124008_1 == ((rd_T55 l0 x4_1).f2)) = true := beq_iff_eq.mpr c41
                          have c41b1 : (x124008_1 != ((rd_T55 l0 x4_1).f2)) = false := bne_eq_false_iff_eq.mpr c41
                          clear c41
                          have H' := Aside0.mk H
                          clear H
                          have hnb42 := NB125_123.out
                          have hnc42 := NB123_125.out
                          have hcz43_0 : wc.cell? ⟨gb125, 0, none⟩ = some (.int .i64 ((rd_T55 l0 x4_1).f0)) := (blk_cell BK125.out 0).trans rfl
                          have hcz43_1 : wc.cell? ⟨gb125, 1, none⟩ = some (.int .i64 ((rd_T55 l0 x4_1).f1)) := (blk_cell BK125.out 1).trans rfl
                          have hcz43_2 : wc.cell? ⟨gb125, 2, none⟩ = some (.int .i64 ((rd_T55 l0 x4_1).f2)) := (blk_cell BK125.out 2).trans rfl
                          have hcz43_3 : wc.cell? ⟨gb125, 3, none⟩ = some (.int .i64 ((rd_T55 l0 x4_1).f3)) := (blk_cell BK125.out 3).trans rfl
                          have hcz43_4 : wc.cell? ⟨gb125, 4, none⟩ = some (.int .i64 ((rd_T55 l0 x4_1).f4)) := (blk_cell BK125.out 4).trans rfl
                          have hcz43_5 : wc.cell? ⟨gb125, 5, none⟩ = some (.int .i64 ((rd_T55 l0 x4_1).f5)) := (blk_cell BK125.out 5).trans rfl
                          have hcz43_6 : wc.cell? ⟨gb125, 6, none⟩ = some (.int .i64 ((rd_T55 l0 x4_1).f6)) := (blk_cell BK125.out 6).trans rfl
                          have hcz43_7 : wc.cell? ⟨gb125, 7, none⟩ = some (.int .i64 ((rd_T55 l0 x4_1).f7)) := (blk_cell BK125.out 7).trans rfl
                          have hcz43_8 : wc.cell? ⟨gb125, 8, none⟩ = some (.int .i64 ((rd_T55 l0 x4_1).f8)) := (blk_cell BK125.out 8).trans rfl
                          have hfz43_0 := blk_frozen BK125.out 0
                          have hfz43_1 := blk_frozen BK125.out 1
                          have hfz43_2 := blk_frozen BK125.out 2
                          have hfz43_3 := blk_frozen BK125.out 3
                          have hfz43_4 := blk_frozen BK125.out 4
                          have hfz43_5 := blk_frozen BK125.out 5
                          have hfz43_6 := blk_frozen BK125.out 6
                          have hfz43_7 := blk_frozen BK125.out 7
                          have hfz43_8 := blk_frozen BK125.out 8
                          have hcz44_0 : wc.cell? ⟨gb123, 0, none⟩ = some (.int .i64 x124000_1) := (blk_cell BK123.out 0).trans rfl
                          have hcz44_1 : wc.cell? ⟨gb123, 1, none⟩ = some (.int .i64 x124001_1) := (blk_cell BK123.out 1).trans rfl
                          have hcz44_2 : wc.cell? ⟨gb123, 2, none⟩ = some (.int .i64 x124002_1) := (blk_cell BK123.out 2).trans rfl
                          have hcz44_3 : wc.cell? ⟨gb123, 3, none⟩ = some (.int .i64 x124003_1) := (blk_cell BK123.out 3).trans rfl
                          have hcz44_4 : wc.cell? ⟨gb123, 4, none⟩ = some (.int .i64 x124004_1) := (blk_cell BK123.out 4).trans rfl
                          have hcz44_5 : wc.cell? ⟨gb123, 5, none⟩ = some (.int .i64 x124005_1) := (blk_cell BK123.out 5).trans rfl
                          have hcz44_6 : wc.cell? ⟨gb123, 6, none⟩ = some (.int .i64 x124006_1) := (blk_cell BK123.out 6).trans rfl
                          have hcz44_7 : wc.cell? ⟨gb123, 7, none⟩ = some (.int .i64 x124007_1) := (blk_cell BK123.out 7).trans rfl
                          have hcz44_8 : wc.cell? ⟨gb123, 8, none⟩ = some (.int .i64 x124008_1) := (blk_cell BK123.out 8).trans rfl
                          have hfz44_0 := blk_frozen BK123.out 0
                          have hfz44_1 := blk_frozen BK123.out 1
                          have hfz44_2 := blk_frozen BK123.out 2
                          have hfz44_3 := blk_frozen BK123.out 3
                          have hfz44_4 := blk_frozen BK123.out 4
                          have hfz44_5 := blk_frozen BK123.out 5
                          have hfz44_6 := blk_frozen BK123.out 6
                          have hfz44_7 := blk_frozen BK123.out 7
                          have hfz44_8 := blk_frozen BK123.out 8
                          go_wp2
                          go_roundg kj7
                          case measure => have := HK1.out; have := HJ7.out; omega
                          case rel => exact ⟨(wrap64 (x4_1 + 1)), (x124000_1), (x124001_1), (x124002_1), (x124003_1), (x124004_1), (x124005_1), (x124006_1), (x124007_1), (x124008_1), (by first | rfl | (simp; done) | (simp [*]; done)), H', ⟨by have := HK1.out; have := HJ7.out; omega⟩, ⟨by (with_reducible repeat (first | refine blk_drewN ?_ _ | refine blk_drew ?_ | refine blk_alloc ?_ _)); exact BK123.out⟩, ⟨by repeat (first | (with_reducible first | exact HB.out | apply below_alloc | apply pw_below_drewN | apply below_drew1 | refine below_set ?_ GE123.out | refine below_set ?_ GE125.out) | exact HB.out)⟩⟩
                        · rw [if_neg c41] at H
                          have c41b0 : (x124008_1 == ((rd_T55 l0 x4_1).f2)) = false := beq_eq_false_iff_ne.mpr c41
                          have c41b1 : (x124008_1 != ((rd_T55 l0 x4_1).f2)) = true := bne_iff_ne.mpr c41
                          obtain rfl := Option.some.inj H
                          have hnb45 := NB125_123.out
                          have hnc45 := NB123_125.out
                          have hcz46_0 : wc.cell? ⟨gb125, 0, none⟩ = some (.int .i64 ((rd_T55 l0 x4_1).f0)) := (blk_cell BK125.out 0).trans rfl
                          have hcz46_1 : wc.cell? ⟨gb125, 1, none⟩ = some (.int .i64 ((rd_T55 l0 x4_1).f1)) := (blk_cell BK125.out 1).trans rfl
                          have hcz46_2 : wc.cell? ⟨gb125, 2, none⟩ = some (.int .i64 ((rd_T55 l0 x4_1).f2)) := (blk_cell BK125.out 2).trans rfl
                          have hcz46_3 : wc.cell? ⟨gb125, 3, none⟩ = some (.int .i64 ((rd_T55 l0 x4_1).f3)) := (blk_cell BK125.out 3).trans rfl
                          have hcz46_4 : wc.cell? ⟨gb125, 4, none⟩ = some (.int .i64 ((rd_T55 l0 x4_1).f4)) := (blk_cell BK125.out 4).trans rfl
                          have hcz46_5 : wc.cell? ⟨gb125, 5, none⟩ = some (.int .i64 ((rd_T55 l0 x4_1).f5)) := (blk_cell BK125.out 5).trans rfl
                          have hcz46_6 : wc.cell? ⟨gb125, 6, none⟩ = some (.int .i64 ((rd_T55 l0 x4_1).f6)) := (blk_cell BK125.out 6).trans rfl
                          have hcz46_7 : wc.cell? ⟨gb125, 7, none⟩ = some (.int .i64 ((rd_T55 l0 x4_1).f7)) := (blk_cell BK125.out 7).trans rfl
                          have hcz46_8 : wc.cell? ⟨gb125, 8, none⟩ = some (.int .i64 ((rd_T55 l0 x4_1).f8)) := (blk_cell BK125.out 8).trans rfl
                          have hfz46_0 := blk_frozen BK125.out 0
                          have hfz46_1 := blk_frozen BK125.out 1
                          have hfz46_2 := blk_frozen BK125.out 2
                          have hfz46_3 := blk_frozen BK125.out 3
                          have hfz46_4 := blk_frozen BK125.out 4
                          have hfz46_5 := blk_frozen BK125.out 5
                          have hfz46_6 := blk_frozen BK125.out 6
                          have hfz46_7 := blk_frozen BK125.out 7
                          have hfz46_8 := blk_frozen BK125.out 8
                          have hcz47_0 : wc.cell? ⟨gb123, 0, none⟩ = some (.int .i64 x124000_1) := (blk_cell BK123.out 0).trans rfl
                          have hcz47_1 : wc.cell? ⟨gb123, 1, none⟩ = some (.int .i64 x124001_1) := (blk_cell BK123.out 1).trans rfl
                          have hcz47_2 : wc.cell? ⟨gb123, 2, none⟩ = some (.int .i64 x124002_1) := (blk_cell BK123.out 2).trans rfl
                          have hcz47_3 : wc.cell? ⟨gb123, 3, none⟩ = some (.int .i64 x124003_1) := (blk_cell BK123.out 3).trans rfl
                          have hcz47_4 : wc.cell? ⟨gb123, 4, none⟩ = some (.int .i64 x124004_1) := (blk_cell BK123.out 4).trans rfl
                          have hcz47_5 : wc.cell? ⟨gb123, 5, none⟩ = some (.int .i64 x124005_1) := (blk_cell BK123.out 5).trans rfl
                          have hcz47_6 : wc.cell? ⟨gb123, 6, none⟩ = some (.int .i64 x124006_1) := (blk_cell BK123.out 6).trans rfl
                          have hcz47_7 : wc.cell? ⟨gb123, 7, none⟩ = some (.int .i64 x124007_1) := (blk_cell BK123.out 7).trans rfl
                          have hcz47_8 : wc.cell? ⟨gb123, 8, none⟩ = some (.int .i64 x124008_1) := (blk_cell BK123.out 8).trans rfl
                          have hfz47_0 := blk_frozen BK123.out 0
                          have hfz47_1 := blk_frozen BK123.out 1
                          have hfz47_2 := blk_frozen BK123.out 2
                          have hfz47_3 := blk_frozen BK123.out 3
                          have hfz47_4 := blk_frozen BK123.out 4
                          have hfz47_5 := blk_frozen BK123.out 5
                          have hfz47_6 := blk_frozen BK123.out 6
                          have hfz47_7 := blk_frozen BK123.out 7
                          have hfz47_8 := blk_frozen BK123.out 8
                          go_wp2
                          go_ret
                          exact ⟨by first | rfl | (simp [errW_none, errW_some] <;> rfl) | (simp [*, errW_none, errW_some] <;> rfl), by repeat (first | (with_reducible first | exact HB.out | apply below_alloc | apply pw_below_drewN | apply below_drew1 | refine below_set ?_ GE123.out | refine below_set ?_ GE125.out) | exact HB.out)⟩
                      · rw [if_neg c40] at H
                        have c40b0 : (x124001_1 == ((rd_T55 l0 x4_1).f1)) = false := beq_eq_false_iff_ne.mpr c40
                        have c40b1 : (x124001_1 != ((rd_T55 l0 x4_1).f1)) = true := bne_iff_ne.mpr c40
                        obtain rfl := Option.some.inj H
                        have hnb48 := NB125_123.out
                        have hnc48 := NB123_125.out
                        have hcz49_0 : wc.cell? ⟨gb125, 0, none⟩ = some (.int .i64 ((rd_T55 l0 x4_1).f0)) := (blk_cell BK125.out 0).trans rfl
                        have hcz49_1 : wc.cell? ⟨gb125, 1, none⟩ = some (.int .i64 ((rd_T55 l0 x4_1).f1)) := (blk_cell BK125.out 1).trans rfl
                        have hcz49_2 : wc.cell? ⟨gb125, 2, none⟩ = some (.int .i64 ((rd_T55 l0 x4_1).f2)) := (blk_cell BK125.out 2).trans rfl
                        have hcz49_3 : wc.cell? ⟨gb125, 3, none⟩ = some (.int .i64 ((rd_T55 l0 x4_1).f3)) := (blk_cell BK125.out 3).trans rfl
                        have hcz49_4 : wc.cell? ⟨gb125, 4, none⟩ = some (.int .i64 ((rd_T55 l0 x4_1).f4)) := (blk_cell BK125.out 4).trans rfl
                        have hcz49_5 : wc.cell? ⟨gb125, 5, none⟩ = some (.int .i64 ((rd_T55 l0 x4_1).f5)) := (blk_cell BK125.out 5).trans rfl
                        have hcz49_6 : wc.cell? ⟨gb125, 6, none⟩ = some (.int .i64 ((rd_T55 l0 x4_1).f6)) := (blk_cell BK125.out 6).trans rfl
                        have hcz49_7 : wc.cell? ⟨gb125, 7, none⟩ = some (.int .i64 ((rd_T55 l0 x4_1).f7)) := (blk_cell BK125.out 7).trans rfl
                        have hcz49_8 : wc.cell? ⟨gb125, 8, none⟩ = some (.int .i64 ((rd_T55 l0 x4_1).f8)) := (blk_cell BK125.out 8).trans rfl
                        have hfz49_0 := blk_frozen BK125.out 0
                        have hfz49_1 := blk_frozen BK125.out 1
                        have hfz49_2 := blk_frozen BK125.out 2
                        have hfz49_3 := blk_frozen BK125.out 3
                        have hfz49_4 := blk_frozen BK125.out 4
                        have hfz49_5 := blk_frozen BK125.out 5
                        have hfz49_6 := blk_frozen BK125.out 6
                        have hfz49_7 := blk_frozen BK125.out 7
                        have hfz49_8 := blk_frozen BK125.out 8
                        have hcz50_0 : wc.cell? ⟨gb123, 0, none⟩ = some (.int .i64 x124000_1) := (blk_cell BK123.out 0).trans rfl
                        have hcz50_1 : wc.cell? ⟨gb123, 1, none⟩ = some (.int .i64 x124001_1) := (blk_cell BK123.out 1).trans rfl
                        have hcz50_2 : wc.cell? ⟨gb123, 2, none⟩ = some (.int .i64 x124002_1) := (blk_cell BK123.out 2).trans rfl
                        have hcz50_3 : wc.cell? ⟨gb123, 3, none⟩ = some (.int .i64 x124003_1) := (blk_cell BK123.out 3).trans rfl
                        have hcz50_4 : wc.cell? ⟨gb123, 4, none⟩ = some (.int .i64 x124004_1) := (blk_cell BK123.out 4).trans rfl
                        have hcz50_5 : wc.cell? ⟨gb123, 5, none⟩ = some (.int .i64 x124005_1) := (blk_cell BK123.out 5).trans rfl
                        have hcz50_6 : wc.cell? ⟨gb123, 6, none⟩ = some (.int .i64 x124006_1) := (blk_cell BK123.out 6).trans rfl
                        have hcz50_7 : wc.cell? ⟨gb123, 7, none⟩ = some (.int .i64 x124007_1) := (blk_cell BK123.out 7).trans rfl
                        have hcz50_8 : wc.cell? ⟨gb123, 8, none⟩ = some (.int .i64 x124008_1) := (blk_cell BK123.out 8).trans rfl
                        have hfz50_0 := blk_frozen BK123.out 0
                        have hfz50_1 := blk_frozen BK123.out 1
                        have hfz50_2 := blk_frozen BK123.out 2
                        have hfz50_3 := blk_frozen BK123.out 3
                        have hfz50_4 := blk_frozen BK123.out 4
                        have hfz50_5 := blk_frozen BK123.out 5
                        have hfz50_6 := blk_frozen BK123.out 6
                        have hfz50_7 := blk_frozen BK123.out 7
                        have hfz50_8 := blk_frozen BK123.out 8
                        go_wp2
                        go_ret
                        exact ⟨by first | rfl | (simp [errW_none, errW_some] <;> rfl) | (simp [*, errW_none, errW_some] <;> rfl), by repeat (first | (with_reducible first | exact HB.out | apply below_alloc | apply pw_below_drewN | apply below_drew1 | refine below_set ?_ GE123.out | refine below_set ?_ GE125.out) | exact HB.out)⟩
          · replace c7 := Bool.eq_false_iff.mpr c7
            subst c7
            have H1 : (spec_Owned.l0 k1 l0 (wrap64 (x4_1 + 1)) x124000_1 x124001_1 x124002_1 x124003_1 x124004_1 x124005_1 x124006_1 x124007_1 x124008_1) = some r := by rw [if_neg (show ¬ (false = true) by decide)] at H; exact H
            clear H
            have H := H1
            clear H1
            have H' := Aside0.mk H
            clear H
            have p124 : 0 ≤ (x4_1 : Int) := of_decide_eq_true (by first | (with_reducible assumption) | assumption)
            have q124 : x4_1 < (l0.length : Int) := of_decide_eq_true (by first | (with_reducible assumption) | assumption)
            obtain ⟨ad124, e124, hx124_0, hx124_1, hx124_2, hx124_3, hx124_4, hx124_5, hx124_6, hx124_7, hx124_8⟩ := at_T55 HR0.out x4_1 p124 q124
            cases e124
            replace hx124_0 := (HB.out.cell (World.block_lt_of_cell? w _ hx124_0)).trans hx124_0
            replace hx124_1 := (HB.out.cell (World.block_lt_of_cell? w _ hx124_1)).trans hx124_1
            replace hx124_2 := (HB.out.cell (World.block_lt_of_cell? w _ hx124_2)).trans hx124_2
            replace hx124_3 := (HB.out.cell (World.block_lt_of_cell? w _ hx124_3)).trans hx124_3
            replace hx124_4 := (HB.out.cell (World.block_lt_of_cell? w _ hx124_4)).trans hx124_4
            replace hx124_5 := (HB.out.cell (World.block_lt_of_cell? w _ hx124_5)).trans hx124_5
            replace hx124_6 := (HB.out.cell (World.block_lt_of_cell? w _ hx124_6)).trans hx124_6
            replace hx124_7 := (HB.out.cell (World.block_lt_of_cell? w _ hx124_7)).trans hx124_7
            replace hx124_8 := (HB.out.cell (World.block_lt_of_cell? w _ hx124_8)).trans hx124_8
            replace p124 := eq_true p124
            replace q124 := eq_true q124
            go_wp2_with (first | ((with_reducible refine gate_dst (N := 5) rfl ?_); refine box_event ?hg (N := 5) ?hd (cs := #[.int .i64 0, .int .i64 0, .int .i64 0, .int .i64 0, .int .i64 0, .int .i64 0, .int .i64 0, .int .i64 0, .int .i64 0]) (t := 55) ?hr ?_; (case hd => rfl); (case hg => rfl); (case hr => first | (go_simp; done) | (go_simp; rfl)); intro gb125 hg w51 hbox hb; have n0_ := Aside0.mk (blk_below (g := gb123) (o := .cells #[.int .i64 x124000_1, .int .i64 x124001_1, .int .i64 x124002_1, .int .i64 x124003_1, .int .i64 x124004_1, .int .i64 x124005_1, .int .i64 x124006_1, .int .i64 x124007_1, .int .i64 x124008_1] 55 (0, 0)) (by (with_reducible repeat (first | refine blk_drewN ?_ _ | refine blk_drew ?_ | refine blk_alloc ?_ _)); exact BK123.out) hb); have n1_ := Aside0.mk (below_step (by repeat (first | (with_reducible first | exact HB.out | apply below_alloc | apply pw_below_drewN | apply below_drew1 | refine below_set ?_ GE123.out) | exact HB.out)) hb); have n2_ := Aside0.mk (hbox); have n3_ := Aside0.mk ((by rw [hg]; exact (below_size (by repeat (first | (with_reducible first | exact HB.out | apply below_alloc | apply pw_below_drewN | apply below_drew1 | refine below_set ?_ GE123.out) | exact HB.out))) : w.heap.size ≤ gb125)); have n4_ := Aside0.mk ((by rw [hg]; exact (below_size (by repeat (first | (with_reducible first | exact HB.out | apply below_alloc | apply pw_below_drewN | apply below_drew1 | refine below_set ?_ GE123.out) | exact HB.out))) : w.heap.size ≤ gb125)); have n5_ := Aside0.mk ((by rw [hg]; exact Nat.ne_of_lt (blk_lt (g := gb123) (o := .cells #[.int .i64 x124000_1, .int .i64 x124001_1, .int .i64 x124002_1, .int .i64 x124003_1, .int .i64 x124004_1, .int .i64 x124005_1, .int .i64 x124006_1, .int .i64 x124007_1, .int .i64 x124008_1] 55 (0, 0)) (by (with_reducible repeat (first | refine blk_drewN ?_ _ | refine blk_drew ?_ | refine blk_alloc ?_ _)); exact BK123.out)) : gb123 ≠ gb125)); have n6_ := Aside0.mk ((by rw [hg]; exact Nat.ne_of_gt (blk_lt (g := gb123) (o := .cells #[.int .i64 x124000_1, .int .i64 x124001_1, .int .i64 x124002_1, .int .i64 x124003_1, .int .i64 x124004_1, .int .i64 x124005_1, .int .i64 x124006_1, .int .i64 x124007_1, .int .i64 x124008_1] 55 (0, 0)) (by (with_reducible repeat (first | refine blk_drewN ?_ _ | refine blk_drew ?_ | refine blk_alloc ?_ _)); exact BK123.out)) : gb125 ≠ gb123)); clear BK123; clear HB; have BK123 := n0_; have HB := n1_; have BK125 := n2_; have GW125 := n3_; have GE125 := n4_; have NB123_125 := n5_; have NB125_123 := n6_; clear n0_ n1_ n2_ n3_ n4_ n5_ n6_; clear hb hbox hg; have hnb52 := NB125_123.out; have hnc52 := NB123_125.out; have hcz53_0 : w51.cell? ⟨gb125, 0, none⟩ = some (.int .i64 0) := (blk_cell BK125.out 0).trans rfl; have hcz53_1 : w51.cell? ⟨gb125, 1, none⟩ = some (.int .i64 0) := (blk_cell BK125.out 1).trans rfl; have hcz53_2 : w51.cell? ⟨gb125, 2, none⟩ = some (.int .i64 0) := (blk_cell BK125.out 2).trans rfl; have hcz53_3 : w51.cell? ⟨gb125, 3, none⟩ = some (.int .i64 0) := (blk_cell BK125.out 3).trans rfl; have hcz53_4 : w51.cell? ⟨gb125, 4, none⟩ = some (.int .i64 0) := (blk_cell BK125.out 4).trans rfl; have hcz53_5 : w51.cell? ⟨gb125, 5, none⟩ = some (.int .i64 0) := (blk_cell BK125.out 5).trans rfl; have hcz53_6 : w51.cell? ⟨gb125, 6, none⟩ = some (.int .i64 0) := (blk_cell BK125.out 6).trans rfl; have hcz53_7 : w51.cell? ⟨gb125, 7, none⟩ = some (.int .i64 0) := (blk_cell BK125.out 7).trans rfl; have hcz53_8 : w51.cell? ⟨gb125, 8, none⟩ = some (.int .i64 0) := (blk_cell BK125.out 8).trans rfl; have hfz53_0 := blk_frozen BK125.out 0; have hfz53_1 := blk_frozen BK125.out 1; have hfz53_2 := blk_frozen BK125.out 2; have hfz53_3 := blk_frozen BK125.out 3; have hfz53_4 := blk_frozen BK125.out 4; have hfz53_5 := blk_frozen BK125.out 5; have hfz53_6 := blk_frozen BK125.out 6; have hfz53_7 := blk_frozen BK125.out 7; have hfz53_8 := blk_frozen BK125.out 8) | ((with_reducible refine gate_callee (f := 31) rfl ?_); refine goesL_ (some 19) rfl rfl Try.func31 (by kernel_rfl) rfl #[.int .i64 ((rd_T55 l0 x4_1).f0), .int .i64 1, .int .i64 8] rfl (by (try simp only [List.map_toArray, List.map_cons, List.map_nil]); first | done | rfl | (simp only [List.length_drop, List.length_take]; rfl)) ?_; (with_reducible refine (spec_l1In.calls ((rd_T55 l0 x4_1).f0) 1 8 false _ A6.out).mono ?_); rintro e w' ⟨rfl, ⟨nd, rfl⟩⟩; refine ⟨_, rfl, ?_⟩))
            go_roundg k1
            case measure => have := HK1.out; omega
            case rel => exact ⟨(wrap64 (x4_1 + 1)), (x124000_1), (x124001_1), (x124002_1), (x124003_1), (x124004_1), (x124005_1), (x124006_1), (x124007_1), (x124008_1), (by first | rfl | (simp; done) | (simp [*]; done)), H', ⟨by have := HK1.out; omega⟩, ⟨by (with_reducible repeat (first | refine blk_drewN ?_ _ | refine blk_drew ?_ | refine blk_alloc ?_ _)); refine blk_far ?_ NB123_125.out _; (with_reducible repeat (first | refine blk_drewN ?_ _ | refine blk_drew ?_ | refine blk_alloc ?_ _)); refine blk_far ?_ NB123_125.out _; (with_reducible repeat (first | refine blk_drewN ?_ _ | refine blk_drew ?_ | refine blk_alloc ?_ _)); refine blk_far ?_ NB123_125.out _; (with_reducible repeat (first | refine blk_drewN ?_ _ | refine blk_drew ?_ | refine blk_alloc ?_ _)); refine blk_far ?_ NB123_125.out _; (with_reducible repeat (first | refine blk_drewN ?_ _ | refine blk_drew ?_ | refine blk_alloc ?_ _)); refine blk_far ?_ NB123_125.out _; (with_reducible repeat (first | refine blk_drewN ?_ _ | refine blk_drew ?_ | refine blk_alloc ?_ _)); refine blk_far ?_ NB123_125.out _; (with_reducible repeat (first | refine blk_drewN ?_ _ | refine blk_drew ?_ | refine blk_alloc ?_ _)); refine blk_far ?_ NB123_125.out _; (with_reducible repeat (first | refine blk_drewN ?_ _ | refine blk_drew ?_ | refine blk_alloc ?_ _)); refine blk_far ?_ NB123_125.out _; (with_reducible repeat (first | refine blk_drewN ?_ _ | refine blk_drew ?_ | refine blk_alloc ?_ _)); refine blk_far ?_ NB123_125.out _; (with_reducible repeat (first | refine blk_drewN ?_ _ | refine blk_drew ?_ | refine blk_alloc ?_ _)); exact BK123.out⟩, ⟨by repeat (first | (with_reducible first | exact HB.out | apply below_alloc | apply pw_below_drewN | apply below_drew1 | refine below_set ?_ GE123.out | refine below_set ?_ GE125.out) | exact HB.out)⟩⟩
        · rw [if_neg c5] at H
          exact absurd H (by simp)
      · rw [if_neg c4] at H
        have c4b0 : decide (x4_1 < (l0.length : Int)) = false := decide_eq_false c4
        clear c4
        obtain rfl := Option.some.inj H
        go_wp2
        go_ret
        exact ⟨by first | rfl | (simp [errW_none, errW_some] <;> rfl) | (simp [*, errW_none, errW_some] <;> rfl), by repeat (first | (with_reducible first | exact HB.out | apply below_alloc | apply pw_below_drewN | apply below_drew1 | refine below_set ?_ GE123.out) | exact HB.out)⟩

end Go.Proofs.Ytjeadgnoladnjaa.PFnExactOwned
