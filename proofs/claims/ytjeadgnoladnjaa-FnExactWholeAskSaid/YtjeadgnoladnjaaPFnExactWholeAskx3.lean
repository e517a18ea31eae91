-- PRINTED BY print.sh 35421559b90ae4d0a3588c463048766b98c2df88dd9212a6774a882060cdf62d: not written by this session
import Derived.Test.YtjeadgnoladnjaaPFnExactWholeAskx0
import Derived.Test.YtjeadgnoladnjaaPFnExactWholeAskx1
import Derived.Test.YtjeadgnoladnjaaPFnExactWholeAskx2
namespace Go.Proofs.Ytjeadgnoladnjaa.PFnExactWholeAsk
open Go.RowKit Go.Proofs.YtjeadgnoladnjaaW.PrintWords Go.Proofs.YtjeadgnoladnjaaW.PrintLast Go.Proofs.YtjeadgnoladnjaaW.PrintMore
attribute [local go_sem] max2_int min2_int max_two min_two max_three min_three max_four min_four   -- for this text's walks alone
set_option linter.unusedVariables false
set_option linter.unusedSimpArgs false

/-! ### impl_WholeAsk: function 24 -/
mutual
def impl_WholeAsk.l0 : Nat → Int → Bool → List (S55) → Int → Int → Int → Int → Int → Int → Int → Int → Int → Int → Int → Option (Bool)
  | 0, _, _, _, _, _, _, _, _, _, _, _, _, _, _ => none
  | k + 1, x1, x5, x10, x11, x12, x131000, x131001, x131002, x131003, x131004, x131005, x131006, x131007, x131008 => if x12 < x11 then (if 0 ≤ x12 then (if x12 < (x10.length : Int) then ((impl_isLeaseNote.f ((rd_T55 x10 x12).f0) ((rd_T55 x10 x12).f1) ((rd_T55 x10 x12).f2) ((rd_T55 x10 x12).f3) ((rd_T55 x10 x12).f4) ((rd_T55 x10 x12).f5) ((rd_T55 x10 x12).f6) ((rd_T55 x10 x12).f7) ((rd_T55 x10 x12).f8)).bind fun t133 => (if t133 = true then (impl_WholeAsk.j1 k x1 x5 x10 x11 x12 (((rd_T55 x10 x12).f5) != x1) x131000 x131001 x131002 x131003 x131004 x131005 x131006 x131007 x131008 ((rd_T55 x10 x12).f0) ((rd_T55 x10 x12).f1) ((rd_T55 x10 x12).f2) ((rd_T55 x10 x12).f3) ((rd_T55 x10 x12).f4) ((rd_T55 x10 x12).f5) ((rd_T55 x10 x12).f6) ((rd_T55 x10 x12).f7) ((rd_T55 x10 x12).f8)) else (impl_WholeAsk.j1 k x1 x5 x10 x11 x12 true x131000 x131001 x131002 x131003 x131004 x131005 x131006 x131007 x131008 ((rd_T55 x10 x12).f0) ((rd_T55 x10 x12).f1) ((rd_T55 x10 x12).f2) ((rd_T55 x10 x12).f3) ((rd_T55 x10 x12).f4) ((rd_T55 x10 x12).f5) ((rd_T55 x10 x12).f6) ((rd_T55 x10 x12).f7) ((rd_T55 x10 x12).f8)))) else (none)) else (none)) else (some true)
def impl_WholeAsk.j1 : Nat → Int → Bool → List (S55) → Int → Int → Bool → Int → Int → Int → Int → Int → Int → Int → Int → Int → Int → Int → Int → Int → Int → Int → Int → Int → Int → Option (Bool)
  | 0, _, _, _, _, _, _, _, _, _, _, _, _, _, _, _, _, _, _, _, _, _, _, _, _ => none
  | k + 1, x1, x5, x10, x11, x12, x24, x131000, x131001, x131002, x131003, x131004, x131005, x131006, x131007, x131008, x133000, x133001, x133002, x133003, x133004, x133005, x133006, x133007, x133008 => if x24 = true then (impl_WholeAsk.l0 k x1 x5 x10 x11 (wrap64 (x12 + 1)) x131000 x131001 x131002 x131003 x131004 x131005 x131006 x131007 x131008) else (if x133000 = 1 then (if x5 = true then (some false) else (impl_WholeAsk.l0 k x1 true x10 x11 (wrap64 (x12 + 1)) x133000 x133001 x133002 x133003 x133004 x133005 x133006 x133007 x133008)) else (if x5 = true then (if x133006 = x131006 then (if x133007 = x131007 then (if x133000 = 4 then (impl_WholeAsk.l0 k x1 false x10 x11 (wrap64 (x12 + 1)) x131000 x131001 x131002 x131003 x131004 x131005 x131006 x131007 x131008) else (impl_WholeAsk.l0 k x1 (x133000 != 5) x10 x11 (wrap64 (x12 + 1)) x131000 x131001 x131002 x131003 x131004 x131005 x131006 x131007 x131008)) else (some false)) else (some false)) else (some false)))
end
def impl_WholeAsk.f (k : Nat) (l0 : List (S55)) (a1 : Int) : Option (Bool) := impl_WholeAsk.l0 k a1 false l0 (l0.length : Int) 0 0 0 0 0 0 0 0 0 0
theorem impl_WholeAsk.mono_l : ∀ k, (∀ y0 y1 y2 y3 y4 y5 y6 y7 y8 y9 y10 y11 y12 y13, LeO (impl_WholeAsk.l0 k y0 y1 y2 y3 y4 y5 y6 y7 y8 y9 y10 y11 y12 y13) (impl_WholeAsk.l0 (k + 1) y0 y1 y2 y3 y4 y5 y6 y7 y8 y9 y10 y11 y12 y13)) ∧ (∀ y0 y1 y2 y3 y4 y5 y6 y7 y8 y9 y10 y11 y12 y13 y14 y15 y16 y17 y18 y19 y20 y21 y22 y23, LeO (impl_WholeAsk.j1 k y0 y1 y2 y3 y4 y5 y6 y7 y8 y9 y10 y11 y12 y13 y14 y15 y16 y17 y18 y19 y20 y21 y22 y23) (impl_WholeAsk.j1 (k + 1) y0 y1 y2 y3 y4 y5 y6 y7 y8 y9 y10 y11 y12 y13 y14 y15 y16 y17 y18 y19 y20 y21 y22 y23))
  | 0 => ⟨fun _ _ _ _ _ _ _ _ _ _ _ _ _ _ r h => by simp [impl_WholeAsk.l0] at h, fun _ _ _ _ _ _ _ _ _ _ _ _ _ _ _ _ _ _ _ _ _ _ _ _ r h => by simp [impl_WholeAsk.j1] at h⟩
  | k + 1 => by
    obtain ⟨ih0, ih1⟩ := impl_WholeAsk.mono_l k
    refine ⟨?_, ?_⟩
    · intro y0 y1 y2 y3 y4 y5 y6 y7 y8 y9 y10 y11 y12 y13
      unfold impl_WholeAsk.l0
      repeat' first
      | (with_reducible exact ih0 _ _ _ _ _ _ _ _ _ _ _ _ _ _)
      | (with_reducible exact ih1 _ _ _ _ _ _ _ _ _ _ _ _ _ _ _ _ _ _ _ _ _ _ _ _)
      | (with_reducible exact LeO.refl _)
      | (with_reducible exact LeO.none _)
      | (with_reducible refine LeO.ite ?_ ?_)
      | (with_reducible refine LeO.bind ?_ (fun _ => ?_))
      | exact ih0 _ _ _ _ _ _ _ _ _ _ _ _ _ _
      | exact ih1 _ _ _ _ _ _ _ _ _ _ _ _ _ _ _ _ _ _ _ _ _ _ _ _
      | exact LeO.none _
      | refine LeO.ite ?_ ?_
      | refine LeO.bind ?_ (fun _ => ?_)
    · intro y0 y1 y2 y3 y4 y5 y6 y7 y8 y9 y10 y11 y12 y13 y14 y15 y16 y17 y18 y19 y20 y21 y22 y23
      unfold impl_WholeAsk.j1
      repeat' first
      | (with_reducible exact ih0 _ _ _ _ _ _ _ _ _ _ _ _ _ _)
      | (with_reducible exact ih1 _ _ _ _ _ _ _ _ _ _ _ _ _ _ _ _ _ _ _ _ _ _ _ _)
      | (with_reducible exact LeO.refl _)
      | (with_reducible exact LeO.none _)
      | (with_reducible refine LeO.ite ?_ ?_)
      | (with_reducible refine LeO.bind ?_ (fun _ => ?_))
      | exact ih0 _ _ _ _ _ _ _ _ _ _ _ _ _ _
      | exact ih1 _ _ _ _ _ _ _ _ _ _ _ _ _ _ _ _ _ _ _ _ _ _ _ _
      | exact LeO.none _
      | refine LeO.ite ?_ ?_
      | refine LeO.bind ?_ (fun _ => ?_)
theorem impl_WholeAsk.mono : ∀ a0 a1 k, LeO (impl_WholeAsk.f k a0 a1) (impl_WholeAsk.f (k + 1) a0 a1) := by
  intro a0 a1 k
  obtain ⟨ih0, ih1⟩ := impl_WholeAsk.mono_l k
  unfold impl_WholeAsk.f
  repeat' first
      | (with_reducible exact ih0 _ _ _ _ _ _ _ _ _ _ _ _ _ _)
      | (with_reducible exact ih1 _ _ _ _ _ _ _ _ _ _ _ _ _ _ _ _ _ _ _ _ _ _ _ _)
      | (with_reducible exact LeO.refl _)
      | (with_reducible exact LeO.none _)
      | (with_reducible refine LeO.ite ?_ ?_)
      | (with_reducible refine LeO.bind ?_ (fun _ => ?_))
      | exact ih0 _ _ _ _ _ _ _ _ _ _ _ _ _ _
      | exact ih1 _ _ _ _ _ _ _ _ _ _ _ _ _ _ _ _ _ _ _ _ _ _ _ _
      | exact LeO.none _
      | refine LeO.ite ?_ ?_
      | refine LeO.bind ?_ (fun _ => ?_)
set_option maxHeartbeats 8000000 in
set_option maxRecDepth 100000 in
theorem impl_WholeAsk.calls (k : Nat) (A0 : Option Addr) (c0 : Nat) (l0 : List (S55)) (a1 : Int) (r : Bool) (w : World) (hr0 : Kd.C k55 w A0 l0.length l0) (hc0 : l0.length ≤ c0) (h : impl_WholeAsk.f k l0 a1 = some r) :
    Calls Try.prog 24 #[.slice A0 l0.length c0, .int .i64 a1] w fun e w' => e = .returned (.bool r) ∧ Below w.heap.size w w' := by
  have hu55 := Try.underlying55
  have HR0 := Aside0.mk hr0
  have HC0 := Aside0.mk hc0
  clear hr0 hc0
  have HB := Aside0.mk (Below.refl w.heap.size w)
  have H : (impl_WholeAsk.l0 k a1 false l0 (l0.length : Int) 0 0 0 0 0 0 0 0 0 0) = some r := h
  clear h
  have H' := Aside0.mk H
  clear H
  go_enter Try.func24, Try.ntmps24
  go_wp2_with (first | ((with_reducible refine gate_dst (N := 6) rfl ?_); refine box_event ?hg (N := 6) ?hd (cs := #[.int .i64 0, .int .i64 0, .int .i64 0, .int .i64 0, .int .i64 0, .int .i64 0, .int .i64 0, .int .i64 0, .int .i64 0]) (t := 55) ?hr ?_; (case hd => rfl); (case hg => rfl); (case hr => first | (go_simp; done) | (go_simp; rfl)); intro gb130 hg w3 hbox hb; have n0_ := Aside0.mk (below_step (by repeat (first | (with_reducible first | exact HB.out | apply below_alloc | apply pw_below_drewN | apply below_drew1) | exact HB.out)) hb); have n1_ := Aside0.mk (hbox); have n2_ := Aside0.mk ((by rw [hg]; exact (below_size (by repeat (first | (with_reducible first | exact HB.out | apply below_alloc | apply pw_below_drewN | apply below_drew1) | exact HB.out))) : w.heap.size ≤ gb130)); have n3_ := Aside0.mk ((by rw [hg]; exact (below_size (by repeat (first | (with_reducible first | exact HB.out | apply below_alloc | apply pw_below_drewN | apply below_drew1) | exact HB.out))) : w.heap.size ≤ gb130)); clear HB; have HB := n0_; have BK130 := n1_; have GW130 := n2_; have GE130 := n3_; clear n0_ n1_ n2_ n3_; clear hb hbox hg; have hcz4_0 : w3.cell? ⟨gb130, 0, none⟩ = some (.int .i64 0) := (blk_cell BK130.out 0).trans rfl; have hcz4_1 : w3.cell? ⟨gb130, 1, none⟩ = some (.int .i64 0) := (blk_cell BK130.out 1).trans rfl; have hcz4_2 : w3.cell? ⟨gb130, 2, none⟩ = some (.int .i64 0) := (blk_cell BK130.out 2).trans rfl; have hcz4_3 : w3.cell? ⟨gb130, 3, none⟩ = some (.int .i64 0) := (blk_cell BK130.out 3).trans rfl; have hcz4_4 : w3.cell? ⟨gb130, 4, none⟩ = some (.int .i64 0) := (blk_cell BK130.out 4).trans rfl; have hcz4_5 : w3.cell? ⟨gb130, 5, none⟩ = some (.int .i64 0) := (blk_cell BK130.out 5).trans rfl; have hcz4_6 : w3.cell? ⟨gb130, 6, none⟩ = some (.int .i64 0) := (blk_cell BK130.out 6).trans rfl; have hcz4_7 : w3.cell? ⟨gb130, 7, none⟩ = some (.int .i64 0) := (blk_cell BK130.out 7).trans rfl; have hcz4_8 : w3.cell? ⟨gb130, 8, none⟩ = some (.int .i64 0) := (blk_cell BK130.out 8).trans rfl; have hfz4_0 := blk_frozen BK130.out 0; have hfz4_1 := blk_frozen BK130.out 1; have hfz4_2 := blk_frozen BK130.out 2; have hfz4_3 := blk_frozen BK130.out 3; have hfz4_4 := blk_frozen BK130.out 4; have hfz4_5 := blk_frozen BK130.out 5; have hfz4_6 := blk_frozen BK130.out 6; have hfz4_7 := blk_frozen BK130.out 7; have hfz4_8 := blk_frozen BK130.out 8))
  go_loopg [5, 12] k (fun kq v5 v12 w' => ∃ (x5_1 : Bool) (x12_1 : Int) (x131000_1 : Int) (x131001_1 : Int) (x131002_1 : Int) (x131003_1 : Int) (x131004_1 : Int) (x131005_1 : Int) (x131006_1 : Int) (x131007_1 : Int) (x131008_1 : Int), v5 = .bool x5_1 ∧ v12 = .int .i64 x12_1 ∧ Aside0 (impl_WholeAsk.l0 kq a1 x5_1 l0 (l0.length : Int) x12_1 x131000_1 x131001_1 x131002_1 x131003_1 x131004_1 x131005_1 x131006_1 x131007_1 x131008_1 = some r) ∧ Aside0 (kq ≤ k) ∧ Aside0 (w'.heap[gb130]? = some (.cells #[.int .i64 x131000_1, .int .i64 x131001_1, .int .i64 x131002_1, .int .i64 x131003_1, .int .i64 x131004_1, .int .i64 x131005_1, .int .i64 x131006_1, .int .i64 x131007_1, .int .i64 x131008_1] 55 (0, 0))) ∧ Aside0 (Below w.heap.size w w'))
  case atStart => exact ⟨(false), (0), (0), (0), (0), (0), (0), (0), (0), (0), (0), (by first | rfl | (simp; done) | (simp [*]; done)), (by first | rfl | (simp; done) | (simp [*]; done)), H', ⟨Nat.le_refl _⟩, ⟨by (with_reducible repeat (first | refine blk_drewN ?_ _ | refine blk_drew ?_ | refine blk_alloc ?_ _)); refine blk_put (cs := #[.int .i64 0, .int .i64 0, .int .i64 0, .int .i64 0, .int .i64 0, .int .i64 0, .int .i64 0, .int .i64 0, .int .i64 0]) ?_ 8 _ rfl; (with_reducible repeat (first | refine blk_drewN ?_ _ | refine blk_drew ?_ | refine blk_alloc ?_ _)); refine blk_put (cs := #[.int .i64 0, .int .i64 0, .int .i64 0, .int .i64 0, .int .i64 0, .int .i64 0, .int .i64 0, .int .i64 0, .int .i64 0]) ?_ 7 _ rfl; (with_reducible repeat (first | refine blk_drewN ?_ _ | refine blk_drew ?_ | refine blk_alloc ?_ _)); refine blk_put (cs := #[.int .i64 0, .int .i64 0, .int .i64 0, .int .i64 0, .int .i64 0, .int .i64 0, .int .i64 0, .int .i64 0, .int .i64 0]) ?_ 6 _ rfl; (with_reducible repeat (first | refine blk_drewN ?_ _ | refine blk_drew ?_ | refine blk_alloc ?_ _)); refine blk_put (cs := #[.int .i64 0, .int .i64 0, .int .i64 0, .int .i64 0, .int .i64 0, .int .i64 0, .int .i64 0, .int .i64 0, .int .i64 0]) ?_ 5 _ rfl; (with_reducible repeat (first | refine blk_drewN ?_ _ | refine blk_drew ?_ | refine blk_alloc ?_ _)); refine blk_put (cs := #[.int .i64 0, .int .i64 0, .int .i64 0, .int .i64 0, .int .i64 0, .int .i64 0, .int .i64 0, .int .i64 0, .int .i64 0]) ?_ 4 _ rfl; (with_reducible repeat (first | refine blk_drewN ?_ _ | refine blk_drew ?_ | refine blk_alloc ?_ _)); refine blk_put (cs := #[.int .i64 0, .int .i64 0, .int .i64 0, .int .i64 0, .int .i64 0, .int .i64 0, .int .i64 0, .int .i64 0, .int .i64 0]) ?_ 3 _ rfl; (with_reducible repeat (first | refine blk_drewN ?_ _ | refine blk_drew ?_ | refine blk_alloc ?_ _)); refine blk_put (cs := #[.int .i64 0, .int .i64 0, .int .i64 0, .int .i64 0, .int .i64 0, .int .i64 0, .int .i64 0, .int .i64 0, .int .i64 0]) ?_ 2 _ rfl; (with_reducible repeat (first | refine blk_drewN ?_ _ | refine blk_drew ?_ | refine blk_alloc ?_ _)); refine blk_put (cs := #[.int .i64 0, .int .i64 0, .int .i64 0, .int .i64 0, .int .i64 0, .int .i64 0, .int .i64 0, .int .i64 0, .int .i64 0]) ?_ 1 _ rfl; (with_reducible repeat (first | refine blk_drewN ?_ _ | refine blk_drew ?_ | refine blk_alloc ?_ _)); refine blk_put (cs := #[.int .i64 0, .int .i64 0, .int .i64 0, .int .i64 0, .int .i64 0, .int .i64 0, .int .i64 0, .int .i64 0, .int .i64 0]) ?_ 0 _ rfl; (with_reducible repeat (first | refine blk_drewN ?_ _ | refine blk_drew ?_ | refine blk_alloc ?_ _)); exact BK130.out⟩, ⟨by repeat (first | (with_reducible first | exact HB.out | apply below_alloc | apply pw_below_drewN | apply below_drew1 | refine below_set ?_ GE130.out) | exact HB.out)⟩⟩
  case round =>
    clear H'
    try clear c2
    try clear p2
    try clear hcz4_0
    try clear hcz4_1
    try clear hcz4_2
    try clear hcz4_3
    try clear hcz4_4
    try clear hcz4_5
    try clear hcz4_6
    try clear hcz4_7
    try clear hcz4_8
    try clear hfz4_0
    try clear hfz4_1
    try clear hfz4_2
    try clear hfz4_3
    try clear hfz4_4
    try clear hfz4_5
    try clear hfz4_6
    try clear hfz4_7
    try clear hfz4_8
    obtain ⟨x5_1, x12_1, x131000_1, x131001_1, x131002_1, x131003_1, x131004_1, x131005_1, x131006_1, x131007_1, x131008_1, rfl, rfl, HA, HK1, BK130, HB⟩ := hrel
    cases gk with
    | zero => exact absurd HA.out (by simp [impl_WholeAsk.l0])
    | succ k1 =>
      have H := HA.out
      clear HA
      simp only [impl_WholeAsk.l0] at H
      by_cases c5 : x12_1 < (l0.length : Int)
      · rw [if_pos c5] at H
        have c5b0 : decide (x12_1 < (l0.length : Int)) = true := decide_eq_true c5
        clear c5
        by_cases c6 : 0 ≤ x12_1
        · rw [if_pos c6] at H
          have c6b0 : decide (0 ≤ x12_1) = true := decide_eq_true c6
          clear c6
          by_cases c7 : x12_1 < (l0.length : Int)
          · rw [if_pos c7] at H
            have c7b0 : decide (x12_1 < (l0.length : Int)) = true := decide_eq_true c7
            clear c7
            have HC8 := Aside0.mk H
            clear H
            have p131 : 0 ≤ (x12_1 : Int) := of_decide_eq_true (by first | (with_reducible assumption) | assumption)
            have q131 : x12_1 < (l0.length : Int) := of_decide_eq_true (by first | (with_reducible assumption) | assumption)
            obtain ⟨ad131, e131, hx131_0, hx131_1, hx131_2, hx131_3, hx131_4, hx131_5, hx131_6, hx131_7, hx131_8⟩ := at_T55 HR0.out x12_1 p131 q131
            cases e131
            replace hx131_0 := (HB.out.cell (World.block_lt_of_cell? w _ hx131_0)).trans hx131_0
            replace hx131_1 := (HB.out.cell (World.block_lt_of_cell? w _ hx131_1)).trans hx131_1
            replace hx131_2 := (HB.out.cell (World.block_lt_of_cell? w _ hx131_2)).trans hx131_2
            replace hx131_3 := (HB.out.cell (World.block_lt_of_cell? w _ hx131_3)).trans hx131_3
            replace hx131_4 := (HB.out.cell (World.block_lt_of_cell? w _ hx131_4)).trans hx131_4
            replace hx131_5 := (HB.out.cell (World.block_lt_of_cell? w _ hx131_5)).trans hx131_5
            replace hx131_6 := (HB.out.cell (World.block_lt_of_cell? w _ hx131_6)).trans hx131_6
            replace hx131_7 := (HB.out.cell (World.block_lt_of_cell? w _ hx131_7)).trans hx131_7
            replace hx131_8 := (HB.out.cell (World.block_lt_of_cell? w _ hx131_8)).trans hx131_8
            replace p131 := eq_true p131
            replace q131 := eq_true q131
            go_upto_region 5 with (first | ((with_reducible refine gate_dst (N := 8) rfl ?_); refine box_event ?hg (N := 8) ?hd (cs := #[.int .i64 0, .int .i64 0, .int .i64 0, .int .i64 0, .int .i64 0, .int .i64 0, .int .i64 0, .int .i64 0, .int .i64 0]) (t := 55) ?hr ?_; (case hd => rfl); (case hg => rfl); (case hr => first | (go_simp; done) | (go_simp; rfl)); intro gb132 hg w9 hbox hb; have n0_ := Aside0.mk (blk_below (g := gb130) (o := .cells #[.int .i64 x131000_1, .int .i64 x131001_1, .int .i64 x131002_1, .int .i64 x131003_1, .int .i64 x131004_1, .int .i64 x131005_1, .int .i64 x131006_1, .int .i64 x131007_1, .int .i64 x131008_1] 55 (0, 0)) (by (with_reducible repeat (first | refine blk_drewN ?_ _ | refine blk_drew ?_ | refine blk_alloc ?_ _)); exact BK130.out) hb); have n1_ := Aside0.mk (below_step (by repeat (first | (with_reducible first | exact HB.out | apply below_alloc | apply pw_below_drewN | apply below_drew1 | refine below_set ?_ GE130.out) | exact HB.out)) hb); have n2_ := Aside0.mk (hbox); have n3_ := Aside0.mk ((by rw [hg]; exact (below_size (by repeat (first | (with_reducible first | exact HB.out | apply below_alloc | apply pw_below_drewN | apply below_drew1 | refine below_set ?_ GE130.out) | exact HB.out))) : w.heap.size ≤ gb132)); have n4_ := Aside0.mk ((by rw [hg]; exact (below_size (by repeat (first | (with_reducible first | exact HB.out | apply below_alloc | apply pw_below_drewN | apply below_drew1 | refine below_set ?_ GE130.out) | exact HB.out))) : w.heap.size ≤ gb132)); have n5_ := Aside0.mk ((by rw [hg]; exact Nat.ne_of_lt (blk_lt (g := gb130) (o := .cells #[.int .i64 x131000_1, .int .i64 x131001_1, .int .i64 x131002_1, .int .i64 x131003_1, .int .i64 x131004_1, .int .i64 x131005_1, .int .i64 x131006_1, .int .i64 x131007_1, .int .i64 x131008_1] 55 (0, 0)) (by (with_reducible repeat (first | refine blk_drewN ?_ _ | refine blk_drew ?_ | refine blk_alloc ?_ _)); exact BK130.out)) : gb130 ≠ gb132)); have n6_ := Aside0.mk ((by rw [hg]; exact Nat.ne_of_gt (blk_lt (g := gb130) (o := .cells #[.int .i64 x131000_1, .int .i64 x131001_1, .int .i64 x131002_1, .int .i64 x131003_1, .int .i64 x131004_1, .int .i64 x131005_1, .int .i64 x131006_1, .int .i64 x131007_1, .int .i64 x131008_1] 55 (0, 0)) (by (with_reducible repeat (first | refine blk_drewN ?_ _ | refine blk_drew ?_ | refine blk_alloc ?_ _)); exact BK130.out)) : gb132 ≠ gb130)); clear BK130; clear HB; have BK130 := n0_; have HB := n1_; have BK132 := n2_; have GW132 := n3_; have GE132 := n4_; have NB130_132 := n5_; have NB132_130 := n6_; clear n0_ n1_ n2_ n3_ n4_ n5_ n6_; clear hb hbox hg; have hnb10 := NB132_130.out; have hnc10 := NB130_132.out; have hcz11_0 : w9.cell? ⟨gb132, 0, none⟩ = some (.int .i64 0) := (blk_cell BK132.out 0).trans rfl; have hcz11_1 : w9.cell? ⟨gb132, 1, none⟩ = some (.int .i64 0) := (blk_cell BK132.out 1).trans rfl; have hcz11_2 : w9.cell? ⟨gb132, 2, none⟩ = some (.int .i64 0) := (blk_cell BK132.out 2).trans rfl; have hcz11_3 : w9.cell? ⟨gb132, 3, none⟩ = some (.int .i64 0) := (blk_cell BK132.out 3).trans rfl; have hcz11_4 : w9.cell? ⟨gb132, 4, none⟩ = some (.int .i64 0) := (blk_cell BK132.out 4).trans rfl; have hcz11_5 : w9.cell? ⟨gb132, 5, none⟩ = some (.int .i64 0) := (blk_cell BK132.out 5).trans rfl; have hcz11_6 : w9.cell? ⟨gb132, 6, none⟩ = some (.int .i64 0) := (blk_cell BK132.out 6).trans rfl; have hcz11_7 : w9.cell? ⟨gb132, 7, none⟩ = some (.int .i64 0) := (blk_cell BK132.out 7).trans rfl; have hcz11_8 : w9.cell? ⟨gb132, 8, none⟩ = some (.int .i64 0) := (blk_cell BK132.out 8).trans rfl; have hfz11_0 := blk_frozen BK132.out 0; have hfz11_1 := blk_frozen BK132.out 1; have hfz11_2 := blk_frozen BK132.out 2; have hfz11_3 := blk_frozen BK132.out 3; have hfz11_4 := blk_frozen BK132.out 4; have hfz11_5 := blk_frozen BK132.out 5; have hfz11_6 := blk_frozen BK132.out 6; have hfz11_7 := blk_frozen BK132.out 7; have hfz11_8 := blk_frozen BK132.out 8))
            (try simp only [Act.put, List.setIfInBounds_toArray, List.set_cons_zero, List.set_cons_succ])
            go_cut [24] (fun v24 wc => ∃ (kq : Nat) (x24_7 : Bool), v24 = .bool x24_7 ∧ Aside0 (impl_WholeAsk.j1 kq a1 x5_1 l0 (l0.length : Int) x12_1 x24_7 x131000_1 x131001_1 x131002_1 x131003_1 x131004_1 x131005_1 x131006_1 x131007_1 x131008_1 ((rd_T55 l0 x12_1).f0) ((rd_T55 l0 x12_1).f1) ((rd_T55 l0 x12_1).f2) ((rd_T55 l0 x12_1).f3) ((rd_T55 l0 x12_1).f4) ((rd_T55 l0 x12_1).f5) ((rd_T55 l0 x12_1).f6) ((rd_T55 l0 x12_1).f7) ((rd_T55 l0 x12_1).f8) = some r) ∧ Aside0 (kq ≤ k1) ∧ Aside0 (wc.heap[gb130]? = some (.cells #[.int .i64 x131000_1, .int .i64 x131001_1, .int .i64 x131002_1, .int .i64 x131003_1, .int .i64 x131004_1, .int .i64 x131005_1, .int .i64 x131006_1, .int .i64 x131007_1, .int .i64 x131008_1] 55 (0, 0))) ∧ Aside0 (wc.heap[gb132]? = some (.cells #[.int .i64 ((rd_T55 l0 x12_1).f0), .int .i64 ((rd_T55 l0 x12_1).f1), .int .i64 ((rd_T55 l0 x12_1).f2), .int .i64 ((rd_T55 l0 x12_1).f3), .int .i64 ((rd_T55 l0 x12_1).f4), .int .i64 ((rd_T55 l0 x12_1).f5), .int .i64 ((rd_T55 l0 x12_1).f6), .int .i64 ((rd_T55 l0 x12_1).f7), .int .i64 ((rd_T55 l0 x12_1).f8)] 55 (0, 0))) ∧ Aside0 (Below w.heap.size w wc))
            case first =>
              have H := HC8.out
              clear HC8
              replace H := Option.bind_eq_some_iff.mp H
              obtain ⟨t133, A120, H⟩ := H
              replace H : (if t133 = true then (impl_WholeAsk.j1 k1 a1 x5_1 l0 (l0.length : Int) x12_1 (((rd_T55 l0 x12_1).f5) != a1) x131000_1 x131001_1 x131002_1 x131003_1 x131004_1 x131005_1 x131006_1 x131007_1 x131008_1 ((rd_T55 l0 x12_1).f0) ((rd_T55 l0 x12_1).f1) ((rd_T55 l0 x12_1).f2) ((rd_T55 l0 x12_1).f3) ((rd_T55 l0 x12_1).f4) ((rd_T55 l0 x12_1).f5) ((rd_T55 l0 x12_1).f6) ((rd_T55 l0 x12_1).f7) ((rd_T55 l0 x12_1).f8)) else (impl_WholeAsk.j1 k1 a1 x5_1 l0 (l0.length : Int) x12_1 true x131000_1 x131001_1 x131002_1 x131003_1 x131004_1 x131005_1 x131006_1 x131007_1 x131008_1 ((rd_T55 l0 x12_1).f0) ((rd_T55 l0 x12_1).f1) ((rd_T55 l0 x12_1).f2) ((rd_T55 l0 x12_1).f3) ((rd_T55 l0 x12_1).f4) ((rd_T55 l0 x12_1).f5) ((rd_T55 l0 x12_1).f6) ((rd_T55 l0 x12_1).f7) ((rd_T55 l0 x12_1).f8))) = some r := H
              have A12 := Aside0.mk A120
              clear A120
              by_cases c13 : t133 = true
              · subst c13
                have H1 : (impl_WholeAsk.j1 k1 a1 x5_1 l0 (l0.length : Int) x12_1 (((rd_T55 l0 x12_1).f5) != a1) x131000_1 x131001_1 x131002_1 x131003_1 x131004_1 x131005_1 x131006_1 x131007_1 x131008_1 ((rd_T55 l0 x12_1).f0) ((rd_T55 l0 x12_1).f1) ((rd_T55 l0 x12_1).f2) ((rd_T55 l0 x12_1).f3) ((rd_T55 l0 x12_1).f4) ((rd_T55 l0 x12_1).f5) ((rd_T55 l0 x12_1).f6) ((rd_T55 l0 x12_1).f7) ((rd_T55 l0 x12_1).f8)) = some r := by rw [if_pos rfl] at H; exact H
                clear H
                have H := H1
                clear H1
                have H' := Aside0.mk H
                clear H
                have hnb14 := NB132_130.out
                have hnc14 := NB130_132.out
                have hcz15_0 : w9.cell? ⟨gb132, 0, none⟩ = some (.int .i64 0) := (blk_cell BK132.out 0).trans rfl
                have hcz15_1 : w9.cell? ⟨gb132, 1, none⟩ = some (.int .i64 0) := (blk_cell BK132.out 1).trans rfl
                have hcz15_2 : w9.cell? ⟨gb132, 2, none⟩ = some (.int .i64 0) := (blk_cell BK132.out 2).trans rfl
                have hcz15_3 : w9.cell? ⟨gb132, 3, none⟩ = some (.int .i64 0) := (blk_cell BK132.out 3).trans rfl
                have hcz15_4 : w9.cell? ⟨gb132, 4, none⟩ = some (.int .i64 0) := (blk_cell BK132.out 4).trans rfl
                have hcz15_5 : w9.cell? ⟨gb132, 5, none⟩ = some (.int .i64 0) := (blk_cell BK132.out 5).trans rfl
                have hcz15_6 : w9.cell? ⟨gb132, 6, none⟩ = some (.int .i64 0) := (blk_cell BK132.out 6).trans rfl
                have hcz15_7 : w9.cell? ⟨gb132, 7, none⟩ = some (.int .i64 0) := (blk_cell BK132.out 7).trans rfl
                have hcz15_8 : w9.cell? ⟨gb132, 8, none⟩ = some (.int .i64 0) := (blk_cell BK132.out 8).trans rfl
                have hfz15_0 := blk_frozen BK132.out 0
                have hfz15_1 := blk_frozen BK132.out 1
                have hfz15_2 := blk_frozen BK132.out 2
                have hfz15_3 := blk_frozen BK132.out 3
                have hfz15_4 := blk_frozen BK132.out 4
                have hfz15_5 := blk_frozen BK132.out 5
                have hfz15_6 := blk_frozen BK132.out 6
                have hfz15_7 := blk_frozen BK132.out 7
                have hfz15_8 := blk_frozen BK132.out 8
                go_wp2_with (first | ((with_reducible refine gate_callee (f := 40) rfl ?_); refine goesL_ (some 17) rfl rfl Try.func40 (by kernel_rfl) rfl #[.agg #[.int .i64 ((rd_T55 l0 x12_1).f0), .int .i64 ((rd_T55 l0 x12_1).f1), .int .i64 ((rd_T55 l0 x12_1).f2), .int .i64 ((rd_T55 l0 x12_1).f3), .int .i64 ((rd_T55 l0 x12_1).f4), .int .i64 ((rd_T55 l0 x12_1).f5), .int .i64 ((rd_T55 l0 x12_1).f6), .int .i64 ((rd_T55 l0 x12_1).f7), .int .i64 ((rd_T55 l0 x12_1).f8)]] rfl (by (try simp only [List.map_toArray, List.map_cons, List.map_nil]); first | done | rfl | (simp only [List.length_drop, List.length_take]; rfl)) ?_; (with_reducible refine (impl_isLeaseNote.calls ((rd_T55 l0 x12_1).f0) ((rd_T55 l0 x12_1).f1) ((rd_T55 l0 x12_1).f2) ((rd_T55 l0 x12_1).f3) ((rd_T55 l0 x12_1).f4) ((rd_T55 l0 x12_1).f5) ((rd_T55 l0 x12_1).f6) ((rd_T55 l0 x12_1).f7) ((rd_T55 l0 x12_1).f8) true _ A12.out).mono ?_); rintro e w16 ⟨rfl, hb⟩; refine ⟨_, rfl, ?_⟩; have n0_ := Aside0.mk (blk_below (g := gb130) (o := .cells #[.int .i64 x131000_1, .int .i64 x131001_1, .int .i64 x131002_1, .int .i64 x131003_1, .int .i64 x131004_1, .int .i64 x131005_1, .int .i64 x131006_1, .int .i64 x131007_1, .int .i64 x131008_1] 55 (0, 0)) (by (with_reducible repeat (first | refine blk_drewN ?_ _ | refine blk_drew ?_ | refine blk_alloc ?_ _)); refine blk_far ?_ NB130_132.out _; (with_reducible repeat (first | refine blk_drewN ?_ _ | refine blk_drew ?_ | refine blk_alloc ?_ _)); refine blk_far ?_ NB130_132.out _; (with_reducible repeat (first | refine blk_drewN ?_ _ | refine blk_drew ?_ | refine blk_alloc ?_ _)); refine blk_far ?_ NB130_132.out _; (with_reducible repeat (first | refine blk_drewN ?_ _ | refine blk_drew ?_ | refine blk_alloc ?_ _)); refine blk_far ?_ NB130_132.out _; (with_reducible repeat (first | refine blk_drewN ?_ _ | refine blk_drew ?_ | refine blk_alloc ?_ _)); refine blk_far ?_ NB130_132.out _; (with_reducible repeat (first | refine blk_drewN ?_ _ | refine blk_drew ?_ | refine blk_alloc ?_ _)); refine blk_far ?_ NB130_132.out _; (with_reducible repeat (first | refine blk_drewN ?_ _ | refine blk_drew ?_ | refine blk_alloc ?_ _)); refine blk_far ?_ NB130_132.out _; (with_reducible repeat (first | refine blk_drewN ?_ _ | refine blk_drew ?_ | refine blk_alloc ?_ _)); refine blk_far ?_ NB130_132.out _; (with_reducible repeat (first | refine blk_drewN ?_ _ | refine blk_drew ?_ | refine blk_alloc ?_ _)); refine blk_far ?_ NB130_132.out _; (with_reducible repeat (first | refine blk_drewN ?_ _ | refine blk_drew ?_ | refine blk_alloc ?_ _)); exact BK130.out) hb); have n1_ := Aside0.mk (blk_below (g := gb132) (o := .cells #[.int .i64 ((rd_T55 l0 x12_1).f0), .int .i64 ((rd_T55 l0 x12_1).f1), .int .i64 ((rd_T55 l0 x12_1).f2), .int .i64 ((rd_T55 l0 x12_1).f3), .int .i64 ((rd_T55 l0 x12_1).f4), .int .i64 ((rd_T55 l0 x12_1).f5), .int .i64 ((rd_T55 l0 x12_1).f6), .int .i64 ((rd_T55 l0 x12_1).f7), .int .i64 ((rd_T55 l0 x12_1).f8)] 55 (0, 0)) (by (with_reducible repeat (first | refine blk_drewN ?_ _ | refine blk_drew ?_ | refine blk_alloc ?_ _)); refine blk_put (cs := #[.int .i64 ((rd_T55 l0 x12_1).f0), .int .i64 ((rd_T55 l0 x12_1).f1), .int .i64 ((rd_T55 l0 x12_1).f2), .int .i64 ((rd_T55 l0 x12_1).f3), .int .i64 ((rd_T55 l0 x12_1).f4), .int .i64 ((rd_T55 l0 x12_1).f5), .int .i64 ((rd_T55 l0 x12_1).f6), .int .i64 ((rd_T55 l0 x12_1).f7), .int .i64 0]) ?_ 8 _ rfl; (with_reducible repeat (first | refine blk_drewN ?_ _ | refine blk_drew ?_ | refine blk_alloc ?_ _)); refine blk_put (cs := #[.int .i64 ((rd_T55 l0 x12_1).f0), .int .i64 ((rd_T55 l0 x12_1).f1), .int .i64 ((rd_T55 l0 x12_1).f2), .int .i64 ((rd_T55 l0 x12_1).f3), .int .i64 ((rd_T55 l0 x12_1).f4), .int .i64 ((rd_T55 l0 x12_1).f5), .int .i64 ((rd_T55 l0 x12_1).f6), .int .i64 0, .int .i64 0]) ?_ 7 _ rfl; (with_reducible repeat (first | refine blk_drewN ?_ _ | refine blk_drew ?_ | refine blk_alloc ?_ _)); refine blk_put (cs := #[.int .i64 ((rd_T55 l0 x12_1).f0), .int .i64 ((rd_T55 l0 x12_1).f1), .int .i64 ((rd_T55 l0 x12_1).f2), .int .i64 ((rd_T55 l0 x12_1).f3), .int .i64 ((rd_T55 l0 x12_1).f4), .int .i64 ((rd_T55 l0 x12_1).f5), .int .i64 0, .int .i64 0, .int .i64 0]) ?_ 6 _ rfl; (with_reducible repeat (first | refine blk_drewN ?_ _ | refine blk_drew ?_ | refine blk_alloc ?_ _)); refine blk_put (cs := #[.int .i64 ((rd_T55 l0 x12_1).f0), .int .i64 ((rd_T55 l0 x12_1).f1), .int .i64 ((rd_T55 l0 x12_1).f2), .int .i64 ((rd_T55 l0 x12_1).f3), .int .i64 ((rd_T55 l0 x12_1).f4), .int .i64 0, .int .i64 0, .int .i64 0, .int .i64 0]) ?_ 5 _ rfl; (with_reducible repeat (first | refine blk_drewN ?_ _ | refine blk_drew ?_ | refine blk_alloc ?_ _)); refine blk_put (cs := #[.int .i64 ((rd_T55 l0 x12_1).f0), .int .i64 ((rd_T55 l0 x12_1).f1), .int .i64 ((rd_T55 l0 x12_1).f2), .int .i64 ((rd_T55 l0 x12_1).f3), .int .i64 0, .int .i64 0, .int .i64 0, .int .i64 0, .int .i64 0]) ?_ 4 _ rfl; (with_reducible repeat (first | refine blk_drewN ?_ _ | refine blk_drew ?_ | refine blk_alloc ?_ _)); refine blk_put (cs := #[.int .i64 ((rd_T55 l0 x12_1).f0), .int .i64 ((rd_T55 l0 x12_1).f1), .int .i64 ((rd_T55 l0 x12_1).f2), .int .i64 0, .int .i64 0, .int .i64 0, .int .i64 0, .int .i64 0, .int .i64 0]) ?_ 3 _ rfl; (with_reducible repeat (first | refine blk_drewN ?_ _ | refine blk_drew ?_ | refine blk_alloc ?_ _)); refine blk_put (cs := #[.int .i64 ((rd_T55 l0 x12_1).f0), .int .i64 ((rd_T55 l0 x12_1).f1), .int .i64 0, .int .i64 0, .int .i64 0, .int .i64 0, .int .i64 0, .int .i64 0, .int .i64 0]) ?_ 2 _ rfl; (with_reducible repeat (first | refine blk_drewN ?_ _ | refine blk_drew ?_ | refine blk_alloc ?_ _)); refine blk_put (cs := #[.int .i64 ((rd_T55 l0 x12_1).f0), .int .i64 0, .int .i64 0, .int .i64 0, .int .i64 0, .int .i64 0, .int .i64 0, .int .i64 0, .int .i64 0]) ?_ 1 _ rfl; (with_reducible repeat (first | refine blk_drewN ?_ _ | refine blk_drew ?_ | refine blk_alloc ?_ _)); refine blk_put (cs := #[.int .i64 0, .int .i64 0, .int .i64 0, .int .i64 0, .int .i64 0, .int .i64 0, .int .i64 0, .int .i64 0, .int .i64 0]) ?_ 0 _ rfl; (with_reducible repeat (first | refine blk_drewN ?_ _ | refine blk_drew ?_ | refine blk_alloc ?_ _)); exact BK132.out) hb); have n2_ := Aside0.mk (below_step (by repeat (first | (with_reducible first | exact HB.out | apply below_alloc | apply pw_below_drewN | apply below_drew1 | refine below_set ?_ GE130.out | refine below_set ?_ GE132.out) | exact HB.out)) hb); clear BK130; clear BK132; clear HB; have BK130 := n0_; have BK132 := n1_; have HB := n2_; clear n0_ n1_ n2_; (try clear hb); (try clear hb2); (try clear hk); (try clear hi); have hcz17_0 : w16.cell? ⟨gb132, 0, none⟩ = some (.int .i64 ((rd_T55 l0 x12_1).f0)) := (blk_cell BK132.out 0).trans rfl; have hcz17_1 : w16.cell? ⟨gb132, 1, none⟩ = some (.int .i64 ((rd_T55 l0 x12_1).f1)) := (blk_cell BK132.out 1).trans rfl; have hcz17_2 : w16.cell? ⟨gb132, 2, none⟩ = some (.int .i64 ((rd_T55 l0 x12_1).f2)) := (blk_cell BK132.out 2).trans rfl; have hcz17_3 : w16.cell? ⟨gb132, 3, none⟩ = some (.int .i64 ((rd_T55 l0 x12_1).f3)) := (blk_cell BK132.out 3).trans rfl; have hcz17_4 : w16.cell? ⟨gb132, 4, none⟩ = some (.int .i64 ((rd_T55 l0 x12_1).f4)) := (blk_cell BK132.out 4).trans rfl; have hcz17_5 : w16.cell? ⟨gb132, 5, none⟩ = some (.int .i64 ((rd_T55 l0 x12_1).f5)) := (blk_cell BK132.out 5).trans rfl; have hcz17_6 : w16.cell? ⟨gb132, 6, none⟩ = some (.int .i64 ((rd_T55 l0 x12_1).f6)) := (blk_cell BK132.out 6).trans rfl; have hcz17_7 : w16.cell? ⟨gb132, 7, none⟩ = some (.int .i64 ((rd_T55 l0 x12_1).f7)) := (blk_cell BK132.out 7).trans rfl; have hcz17_8 : w16.cell? ⟨gb132, 8, none⟩ = some (.int .i64 ((rd_T55 l0 x12_1).f8)) := (blk_cell BK132.out 8).trans rfl; have hfz17_0 := blk_frozen BK132.out 0; have hfz17_1 := blk_frozen BK132.out 1; have hfz17_2 := blk_frozen BK132.out 2; have hfz17_3 := blk_frozen BK132.out 3; have hfz17_4 := blk_frozen BK132.out 4; have hfz17_5 := blk_frozen BK132.out 5; have hfz17_6 := blk_frozen BK132.out 6; have hfz17_7 := blk_frozen BK132.out 7; have hfz17_8 := blk_frozen BK132.out 8))
                go_meet
                case rel => exact ⟨_, ((((rd_T55 l0 x12_1).f5) != a1)), (by first | rfl | (simp; done) | (simp [*]; done)), H', ⟨by have := HK1.out; first | omega | exact Nat.le_refl _⟩, ⟨by (with_reducible repeat (first | refine blk_drewN ?_ _ | refine blk_drew ?_ | refine blk_alloc ?_ _)); exact BK130.out⟩, ⟨by (with_reducible repeat (first | refine blk_drewN ?_ _ | refine blk_drew ?_ | refine blk_alloc ?_ _)); exact BK132.out⟩, ⟨by repeat (first | (with_reducible first | exact HB.out | apply below_alloc | apply pw_below_drewN | apply below_drew1 | refine below_set ?_ GE130.out | refine below_set ?_ GE132.out) | exact HB.out)⟩⟩
              · replace c13 := Bool.eq_false_iff.mpr c13
                subst c13
                have H1 : (impl_WholeAsk.j1 k1 a1 x5_1 l0 (l0.length : Int) x12_1 true x131000_1 x131001_1 x131002_1 x131003_1 x131004_1 x131005_1 x131006_1 x131007_1 x131008_1 ((rd_T55 l0 x12_1).f0) ((rd_T55 l0 x12_1).f1) ((rd_T55 l0 x12_1).f2) ((rd_T55 l0 x12_1).f3) ((rd_T55 l0 x12_1).f4) ((rd_T55 l0 x12_1).f5) ((rd_T55 l0 x12_1).f6) ((rd_T55 l0 x12_1).f7) ((rd_T55 l0 x12_1).f8)) = some r := by rw [if_neg (show ¬ (false = true) by decide)] at H; exact H
                clear H
                have H := H1
                clear H1
                have H' := Aside0.mk H
                clear H
                have hnb18 := NB132_130.out
                have hnc18 := NB130_132.out
                have hcz19_0 : w9.cell? ⟨gb132, 0, none⟩ = some (.int .i64 0) := (blk_cell BK132.out 0).trans rfl
                have hcz19_1 : w9.cell? ⟨gb132, 1, none⟩ = some (.int .i64 0) := (blk_cell BK132.out 1).trans rfl
                have hcz19_2 : w9.cell? ⟨gb132, 2, none⟩ = some (.int .i64 0) := (blk_cell BK132.out 2).trans rfl
                have hcz19_3 : w9.cell? ⟨gb132, 3, none⟩ = some (.int .i64 0) := (blk_cell BK132.out 3).trans rfl
                have hcz19_4 : w9.cell? ⟨gb132, 4, none⟩ = some (.int .i64 0) := (blk_cell BK132.out 4).trans rfl
                have hcz19_5 : w9.cell? ⟨gb132, 5, none⟩ = some (.int .i64 0) := (blk_cell BK132.out 5).trans rfl
                have hcz19_6 : w9.cell? ⟨gb132, 6, none⟩ = some (.int .i64 0) := (blk_cell BK132.out 6).trans rfl
                have hcz19_7 : w9.cell? ⟨gb132, 7, none⟩ = some (.int .i64 0) := (blk_cell BK132.out 7).trans rfl
                have hcz19_8 : w9.cell? ⟨gb132, 8, none⟩ = some (.int .i64 0) := (blk_cell BK132.out 8).trans rfl
                have hfz19_0 := blk_frozen BK132.out 0
                have hfz19_1 := blk_frozen BK132.out 1
                have hfz19_2 := blk_frozen BK132.out 2
                have hfz19_3 := blk_frozen BK132.out 3
                have hfz19_4 := blk_frozen BK132.out 4
                have hfz19_5 := blk_frozen BK132.out 5
                have hfz19_6 := blk_frozen BK132.out 6
                have hfz19_7 := blk_frozen BK132.out 7
                have hfz19_8 := blk_frozen BK132.out 8
                go_wp2_with (first | ((with_reducible refine gate_callee (f := 40) rfl ?_); refine goesL_ (some 17) rfl rfl Try.func40 (by kernel_rfl) rfl #[.agg #[.int .i64 ((rd_T55 l0 x12_1).f0), .int .i64 ((rd_T55 l0 x12_1).f1), .int .i64 ((rd_T55 l0 x12_1).f2), .int .i64 ((rd_T55 l0 x12_1).f3), .int .i64 ((rd_T55 l0 x12_1).f4), .int .i64 ((rd_T55 l0 x12_1).f5), .int .i64 ((rd_T55 l0 x12_1).f6), .int .i64 ((rd_T55 l0 x12_1).f7), .int .i64 ((rd_T55 l0 x12_1).f8)]] rfl (by (try simp only [List.map_toArray, List.map_cons, List.map_nil]); first | done | rfl | (simp only [List.length_drop, List.length_take]; rfl)) ?_; (with_reducible refine (impl_isLeaseNote.calls ((rd_T55 l0 x12_1).f0) ((rd_T55 l0 x12_1).f1) ((rd_T55 l0 x12_1).f2) ((rd_T55 l0 x12_1).f3) ((rd_T55 l0 x12_1).f4) ((rd_T55 l0 x12_1).f5) ((rd_T55 l0 x12_1).f6) ((rd_T55 l0 x12_1).f7) ((rd_T55 l0 x12_1).f8) false _ A12.out).mono ?_); rintro e w20 ⟨rfl, hb⟩; refine ⟨_, rfl, ?_⟩; have n0_ := Aside0.mk (blk_below (g := gb130) (o := .cells #[.int .i64 x131000_1, .int .i64 x131001_1, .int .i64 x131002_1, .int .i64 x131003_1, .int .i64 x131004_1, .int .i64 x131005_1, .int .i64 x131006_1, .int .i64 x131007_1, .int .i64 x131008_1] 55 (0, 0)) (by (with_reducible repeat (first | refine blk_drewN ?_ _ | refine blk_drew ?_ | refine blk_alloc ?_ _)); refine blk_far ?_ NB130_132.out _; (with_reducible repeat (first | refine blk_drewN ?_ _ | refine blk_drew ?_ | refine blk_alloc ?_ _)); refine blk_far ?_ NB130_132.out _; (with_reducible repeat (first | refine blk_drewN ?_ _ | refine blk_drew ?_ | refine blk_alloc ?_ _)); refine blk_far ?_ NB130_132.out _; (with_reducible repeat (first | refine blk_drewN ?_ _ | refine blk_drew ?_ | refine blk_alloc ?_ _)); refine blk_far ?_ NB130_132.out _; (with_reducible repeat (first | refine blk_drewN ?_ _ | refine blk_drew ?_ | refine blk_alloc ?_ _)); refine blk_far ?_ NB130_132.out _; (with_reducible repeat (first | refine blk_drewN ?_ _ | refine blk_drew ?_ | refine blk_alloc ?_ _)); refine blk_far ?_ NB130_132.out _; (with_reducible repeat (first | refine blk_drewN ?_ _ | refine blk_drew ?_ | refine blk_alloc ?_ _)); refine blk_far ?_ NB130_132.out _; (with_reducible repeat (first | refine blk_drewN ?_ _ | refine blk_drew ?_ | refine blk_alloc ?_ _)); refine blk_far ?_ NB130_132.out _; (with_reducible repeat (first | refine blk_drewN ?_ _ | refine blk_drew ?_ | refine blk_alloc ?_ _)); refine blk_far ?_ NB130_132.out _; (with_reducible repeat (first | refine blk_drewN ?_ _ | refine blk_drew ?_ | refine blk_alloc ?_ _)); exact BK130.out) hb); have n1_ := Aside0.mk (blk_below (g := gb132) (o := .cells #[.int .i64 ((rd_T55 l0 x12_1).f0), .int .i64 ((rd_T55 l0 x12_1).f1), .int .i64 ((rd_T55 l0 x12_1).f2), .int .i64 ((rd_T55 l0 x12_1).f3), .int .i64 ((rd_T55 l0 x12_1).f4), .int .i64 ((rd_T55 l0 x12_1).f5), .int .i64 ((rd_T55 l0 x12_1).f6), .int .i64 ((rd_T55 l0 x12_1).f7), .int .i64 ((rd_T55 l0 x12_1).f8)] 55 (0, 0)) (by (with_reducible repeat (first | refine blk_drewN ?_ _ | refine blk_drew ?_ | refine blk_alloc ?_ _)); refine blk_put (cs := #[.int .i64 ((rd_T55 l0 x12_1).f0), .int .i64 ((rd_T55 l0 x12_1).f1), .int .i64 ((rd_T55 l0 x12_1).f2), .int .i64 ((rd_T55 l0 x12_1).f3), .int .i64 ((rd_T55 l0 x12_1).f4), .int .i64 ((rd_T55 l0 x12_1).f5), .int .i64 ((rd_T55 l0 x12_1).f6), .int .i64 ((rd_T55 l0 x12_1).f7), .int .i64 0]) ?_ 8 _ rfl; (with_reducible repeat (first | refine blk_drewN ?_ _ | refine blk_drew ?_ | refine blk_alloc ?_ _)); refine blk_put (cs := #[.int .i64 ((rd_T55 l0 x12_1).f0), .int .i64 ((rd_T55 l0 x12_1).f1), .int .i64 ((rd_T55 l0 x12_1).f2), .int .i64 ((rd_T55 l0 x12_1).f3), .int .i64 ((rd_T55 l0 x12_1).f4), .int .i64 ((rd_T55 l0 x12_1).f5), .int .i64 ((rd_T55 l0 x12_1).f6), .int .i64 0, .int .i64 0]) ?_ 7 _ rfl; (with_reducible repeat (first | refine blk_drewN ?_ _ | refine blk_drew ?_ | refine blk_alloc ?_ _)); refine blk_put (cs := #[.int .i64 ((rd_T55 l0 x12_1).f0), .int .i64 ((rd_T55 l0 x12_1).f1), .int .i64 ((rd_T55 l0 x12_1).f2), .int .i64 ((rd_T55 l0 x12_1).f3), .int .i64 ((rd_T55 l0 x12_1).f4), .int .i64 ((rd_T55 l0 x12_1).f5), .int .i64 0, .int .i64 0, .int .i64 0]) ?_ 6 _ rfl; (with_reducible repeat (first | refine blk_drewN ?_ _ | refine blk_drew ?_ | refine blk_alloc ?_ _)); refine blk_put (cs := #[.int .i64 ((rd_T55 l0 x12_1).f0), .int .i64 ((rd_T55 l0 x12_1).f1), .int .i64 ((rd_T55 l0 x12_1).f2), .int .i64 ((rd_T55 l0 x12_1).f3), .int .i64 ((rd_T55 l0 x12_1).f4), .int .i64 0, .int .i64 0, .int .i64 0, .int .i64 0]) ?_ 5 _ rfl; (with_reducible repeat (first | refine blk_drewN ?_ _ | refine blk_drew ?_ | refine blk_alloc ?_ _)); refine blk_put (cs := #[.int .i64 ((rd_T55 l0 x12_1).f0), .int .i64 ((rd_T55 l0 x12_1).f1), .int .i64 ((rd_T55 l0 x12_1).f2), .int .i64 ((rd_T55 l0 x12_1).f3), .int .i64 0, .int .i64 0, .int .i64 0, .int .i64 0, .int .i64 0]) ?_ 4 _ rfl; (with_reducible repeat (first | refine blk_drewN ?_ _ | refine blk_drew ?_ | refine blk_alloc ?_ _)); refine blk_put (cs := #[.int .i64 ((rd_T55 l0 x12_1).f0), .int .i64 ((rd_T55 l0 x12_1).f1), .int .i64 ((rd_T55 l0 x12_1).f2), .int .i64 0, .int .i64 0, .int .i64 0, .int .i64 0, .int .i64 0, .int .i64 0]) ?_ 3 _ rfl; (with_reducible repeat (first | refine blk_drewN ?_ _ | refine blk_drew ?_ | refine blk_alloc ?_ _)); refine blk_put (cs := #[.int .i64 ((rd_T55 l0 x12_1).f0), .int .i64 ((rd_T55 l0 x12_1).f1), .int .i64 0, .int .i64 0, .int .i64 0, .int .i64 0, .int .i64 0, .int .i64 0, .int .i64 0]) ?_ 2 _ rfl; (with_reducible repeat (first | refine blk_drewN ?_ _ | refine blk_drew ?_ | refine blk_alloc ?_ _)); refine blk_put (cs := #[.int .i64 ((rd_T55 l0 x12_1).f0), .int .i64 0, .int .i64 0, .int .i64 0, .int .i64 0, .int .i64 0, .int .i64 0, .int .i64 0, .int .i64 0]) ?_ 1 _ rfl; (with_reducible repeat (first | refine blk_drewN ?_ _ | refine blk_drew ?_ | refine blk_alloc ?_ _)); refine blk_put (cs := #[.int .i64 0, .int .i64 0, .int .i64 0, .int .i64 0, .int .i64 0, .int .i64 0, .int .i64 0, .int .i64 0, .int .i64 0]) ?_ 0 _ rfl; (with_reducible repeat (first | refine blk_drewN ?_ _ | refine blk_drew ?_ | refine blk_alloc ?_ _)); exact BK132.out) hb); have n2_ := Aside0.mk (below_step (by repeat (first | (with_reducible first | exact HB.out | apply below_alloc | apply pw_below_drewN | apply below_drew1 | refine below_set ?_ GE130.out | refine below_set ?_ GE132.out) | exact HB.out)) hb); clear BK130; clear BK132; clear HB; have BK130 := n0_; have BK132 := n1_; have HB := n2_; clear n0_ n1_ n2_; (try clear hb); (try clear hb2); (try clear hk); (try clear hi)))
                go_meet
                case rel => exact ⟨_, (true), (by first | rfl | (simp; done) | (simp [*]; done)), H', ⟨by have := HK1.out; first | omega | exact Nat.le_refl _⟩, ⟨by (with_reducible repeat (first | refine blk_drewN ?_ _ | refine blk_drew ?_ | refine blk_alloc ?_ _)); exact BK130.out⟩, ⟨by (with_reducible repeat (first | refine blk_drewN ?_ _ | refine blk_drew ?_ | refine blk_alloc ?_ _)); exact BK132.out⟩, ⟨by repeat (first | (with_reducible first | exact HB.out | apply below_alloc | apply pw_below_drewN | apply below_drew1 | refine below_set ?_ GE130.out | refine below_set ?_ GE132.out) | exact HB.out)⟩⟩
            case rest =>
              clear HC8
              try clear c1
              try clear p1
              try clear q1
              try clear hx1
              try clear c2
              try clear p2
              try clear c4
              try clear c5
              try clear c5b0
              try clear c6
              try clear c6b0
              try clear c7
              try clear c7b0
              try clear c10
              try clear c13
              try clear p13
              try clear q13
              try clear hx13
              try clear c14
              try clear c18
              try clear hcz11_0
              try clear hcz11_1
              try clear hcz11_2
              try clear hcz11_3
              try clear hcz11_4
              try clear hcz11_5
              try clear hcz11_6
              try clear hcz11_7
              try clear hcz11_8
              try clear hcz15_0
              try clear hcz15_1
              try clear hcz15_2
              try clear hcz15_3
              try clear hcz15_4
              try clear hcz15_5
              try clear hcz15_6
              try clear hcz15_7
              try clear hcz15_8
              try clear hcz17_0
              try clear hcz17_1
              try clear hcz17_2
              try clear hcz17_3
              try clear hcz17_4
              try clear hcz17_5
              try clear hcz17_6
              try clear hcz17_7
              try clear hcz17_8
              try clear hcz19_0
              try clear hcz19_1
              try clear hcz19_2
              try clear hcz19_3
              try clear hcz19_4
              try clear hcz19_5
              try clear hcz19_6
              try clear hcz19_7
              try clear hcz19_8
              try clear hcz4_0
              try clear hcz4_1
              try clear hcz4_2
              try clear hcz4_3
              try clear hcz4_4
              try clear hcz4_5
              try clear hcz4_6
              try clear hcz4_7
              try clear hcz4_8
              try clear hfz11_0
              try clear hfz11_1
              try clear hfz11_2
              try clear hfz11_3
              try clear hfz11_4
              try clear hfz11_5
              try clear hfz11_6
              try clear hfz11_7
              try clear hfz11_8
              try clear hfz15_0
              try clear hfz15_1
              try clear hfz15_2
              try clear hfz15_3
              try clear hfz15_4
              try clear hfz15_5
              try clear hfz15_6
              try clear hfz15_7
              try clear hfz15_8
              try clear hfz17_0
              try clear hfz17_1
              try clear hfz17_2
              try clear hfz17_3
              try clear hfz17_4
              try clear hfz17_5
              try clear hfz17_6
              try clear hfz17_7
              try clear hfz17_8
              try clear hfz19_0
              try clear hfz19_1
              try clear hfz19_2
              try clear hfz19_3
              try clear hfz19_4
              try clear hfz19_5
              try clear hfz19_6
              try clear hfz19_7
              try clear hfz19_8
              try clear hfz4_0
              try clear hfz4_1
              try clear hfz4_2
              try clear hfz4_3
              try clear hfz4_4
              try clear hfz4_5
              try clear hfz4_6
              try clear hfz4_7
              try clear hfz4_8
              try clear hx131_0
              try clear hx131_1
              try clear hx131_2
              try clear hx131_3
              try clear hx131_4
              try clear hx131_5
              try clear hx131_6
              try clear hx131_7
              try clear hx131_8
              try clear p131
              try clear p2
              try clear q131
              obtain ⟨kq, x24_7, rfl, HA, HJ7, BK130, BK132, HB⟩ := hcut
              cases kq with
              | zero => exact absurd HA.out (by simp [impl_WholeAsk.j1])
              | succ kj7 =>
                have H := HA.out
                clear HA
                simp only [impl_WholeAsk.j1] at H
                by_cases c21 : x24_7 = true
                · subst c21
                  have H1 : (impl_WholeAsk.l0 kj7 a1 x5_1 l0 (l0.length : Int) (wrap64 (x12_1 + 1)) x131000_1 x131001_1 x131002_1 x131003_1 x131004_1 x131005_1 x131006_1 x131007_1 x131008_1) = some r := by rw [if_pos rfl] at H; exact H
                  clear H
                  have H := H1
                  clear H1
                  have H' := Aside0.mk H
                  clear H
                  go_wp2
                  go_roundg kj7
                  case measure => have := HK1.out; have := HJ7.out; omega
                  case rel => exact ⟨(x5_1), (wrap64 (x12_1 + 1)), (x131000_1), (x131001_1), (x131002_1), (x131003_1), (x131004_1), (x131005_1), (x131006_1), (x131007_1), (x131008_1), (by first | rfl | (simp; done) | (simp [*]; done)), (by first | rfl | (simp; done) | (simp [*]; done)), H', ⟨by have := HK1.out; have := HJ7.out; omega⟩, ⟨by (with_reducible repeat (first | refine blk_drewN ?_ _ | refine blk_drew ?_ | refine blk_alloc ?_ _)); exact BK130.out⟩, ⟨by repeat (first | (with_reducible first | exact HB.out | apply below_alloc | apply pw_below_drewN | apply below_drew1 | refine below_set ?_ GE130.out | refine below_set ?_ GE132.out) | exact HB.out)⟩⟩
                · replace c21 := Bool.eq_false_iff.mpr c21
                  subst c21
                  have H1 : (if ((rd_T55 l0 x12_1).f0) = 1 then (if x5_1 = true then (some false) else (impl_WholeAsk.l0 kj7 a1 true l0 (l0.length : Int) (wrap64 (x12_1 + 1)) ((rd_T55 l0 x12_1).f0) ((rd_T55 l0 x12_1).f1) ((rd_T55 l0 x12_1).f2) ((rd_T55 l0 x12_1).f3) ((rd_T55 l0 x12_1).f4) ((rd_T55 l0 x12_1).f5) ((rd_T55 l0 x12_1).f6) ((rd_T55 l0 x12_1).f7) ((rd_T55 l0 x12_1).f8))) else (if x5_1 = true then (if ((rd_T55 l0 x12_1).f6) = x131006_1 then (if ((rd_T55 l0 x12_1).f7) = x131007_1 then (if ((rd_T55 l0 x12_1).f0) = 4 then (impl_WholeAsk.l0 kj7 a1 false l0 (l0.length : Int) (wrap64 (x12_1 + 1)) x131000_1 x131001_1 x131002_1 x131003_1 x131004_1 x131005_1 x131006_1 x131007_1 x131008_1) else (impl_WholeAsk.l0 kj7 a1 (((rd_T55 l0 x12_1).f0) != 5) l0 (l0.length : Int) (wrap64 (x12_1 + 1)) x131000_1 x131001_1 x131002_1 x131003_1 x131004_1 x131005_1 x131006_1 x131007_1 x131008_1)) else (some false)) else (some false)) else (some false))) = some r := by rw [if_neg (show ¬ (false = true) by decide)] at H; exact H
                  clear H
                  have H := H1
                  clear H1
                  by_cases c22 : ((rd_T55 l0 x12_1).f0) = 1
                  · rw [if_pos c22] at H
                    have c22b0 : (((rd_T55 l0 x12_1).f0) == 1) = true := beq_iff_eq.mpr c22
                    have c22b1 : (((rd_T55 l0 x12_1).f0) != 1) = false := bne_eq_false_iff_eq.mpr c22
                    clear c22
                    by_cases c23 : x5_1 = true
                    · subst c23
                      have H1 : (some false) = some r := by rw [if_pos rfl] at H; exact H
                      clear H
                      have H := H1
                      clear H1
                      obtain rfl := Option.some.inj H
                      have hnb24 := NB132_130.out
                      have hnc24 := NB130_132.out
                      have hcz25_0 : wc.cell? ⟨gb132, 0, none⟩ = some (.int .i64 ((rd_T55 l0 x12_1).f0)) := (blk_cell BK132.out 0).trans rfl
                      have hcz25_1 : wc.cell? ⟨gb132, 1, none⟩ = some (.int .i64 ((rd_T55 l0 x12_1).f1)) := (blk_cell BK132.out 1).trans rfl
                      have hcz25_2 : wc.cell? ⟨gb132, 2, none⟩ = some (.int .i64 ((rd_T55 l0 x12_1).f2)) := (blk_cell BK132.out 2).trans rfl
                      have hcz25_3 : wc.cell? ⟨gb132, 3, none⟩ = some (.int .i64 ((rd_T55 l0 x12_1).f3)) := (blk_cell BK132.out 3).trans rfl
                      have hcz25_4 : wc.cell? ⟨gb132, 4, none⟩ = some (.int .i64 ((rd_T55 l0 x12_1).f4)) := (blk_cell BK132.out 4).trans rfl
                      have hcz25_5 : wc.cell? ⟨gb132, 5, none⟩ = some (.int .i64 ((rd_T55 l0 x12_1).f5)) := (blk_cell BK132.out 5).trans rfl
                      have hcz25_6 : wc.cell? ⟨gb132, 6, none⟩ = some (.int .i64 ((rd_T55 l0 x12_1).f6)) := (blk_cell BK132.out 6).trans rfl
                      have hcz25_7 : wc.cell? ⟨gb132, 7, none⟩ = some (.int .i64 ((rd_T55 l0 x12_1).f7)) := (blk_cell BK132.out 7).trans rfl
                      have hcz25_8 : wc.cell? ⟨gb132, 8, none⟩ = some (.int .i64 ((rd_T55 l0 x12_1).f8)) := (blk_cell BK132.out 8).trans rfl
                      have hfz25_0 := blk_frozen BK132.out 0
                      have hfz25_1 := blk_frozen BK132.out 1
                      have hfz25_2 := blk_frozen BK132.out 2
                      have hfz25_3 := blk_frozen BK132.out 3
                      have hfz25_4 := blk_frozen BK132.out 4
                      have hfz25_5 := blk_frozen BK132.out 5
                      have hfz25_6 := blk_frozen BK132.out 6
                      have hfz25_7 := blk_frozen BK132.out 7
                      have hfz25_8 := blk_frozen BK132.out 8
                      go_wp2
                      go_ret
                      exact ⟨by first | rfl | (simp [errW_none, errW_some] <;> rfl) | (simp [*, errW_none, errW_some] <;> rfl), by repeat (first | (with_reducible first | exact HB.out | apply below_alloc | apply pw_below_drewN | apply below_drew1 | refine below_set ?_ GE130.out | refine below_set ?_ GE132.out) | exact HB.out)⟩
                    · replace c23 := Bool.eq_false_iff.mpr c23
                      subst c23
                      have H1 : (impl_WholeAsk.l0 kj7 a1 true l0 (l0.length : Int) (wrap64 (x12_1 + 1)) ((rd_T55 l0 x12_1).f0) ((rd_T55 l0 x12_1).f1) ((rd_T55 l0 x12_1).f2) ((rd_T55 l0 x12_1).f3) ((rd_T55 l0 x12_1).f4) ((rd_T55 l0 x12_1).f5) ((rd_T55 l0 x12_1).f6) ((rd_T55 l0 x12_1).f7) ((rd_T55 l0 x12_1).f8)) = some r := by rw [if_neg (show ¬ (false = true) by decide)] at H; exact H
                      clear H
                      have H := H1
                      clear H1
                      have H' := Aside0.mk H
                      clear H
                      have hnb26 := NB132_130.out
                      have hnc26 := NB130_132.out
                      have hcz27_0 : wc.cell? ⟨gb132, 0, none⟩ = some (.int .i64 ((rd_T55 l0 x12_1).f0)) := (blk_cell BK132.out 0).trans rfl
                      have hcz27_1 : wc.cell? ⟨gb132, 1, none⟩ = some (.int .i64 ((rd_T55 l0 x12_1).f1)) := (blk_cell BK132.out 1).trans rfl
                      have hcz27_2 : wc.cell? ⟨gb132, 2, none⟩ = some (.int .i64 ((rd_T55 l0 x12_1).f2)) := (blk_cell BK132.out 2).trans rfl
                      have hcz27_3 : wc.cell? ⟨gb132, 3, none⟩ = some (.int .i64 ((rd_T55 l0 x12_1).f3)) := (blk_cell BK132.out 3).trans rfl
                      have hcz27_4 : wc.cell? ⟨gb132, 4, none⟩ = some (.int .i64 ((rd_T55 l0 x12_1).f4)) := (blk_cell BK132.out 4).trans rfl
                      have hcz27_5 : wc.cell? ⟨gb132, 5, none⟩ = some (.int .i64 ((rd_T55 l0 x12_1).f5)) := (blk_cell BK132.out 5).trans rfl
                      have hcz27_6 : wc.cell? ⟨gb132, 6, none⟩ = some (.int .i64 ((rd_T55 l0 x12_1).f6)) := (blk_cell BK132.out 6).trans rfl
                      have hcz27_7 : wc.cell? ⟨gb132, 7, none⟩ = some (.int .i64 ((rd_T55 l0 x12_1).f7)) := (blk_cell BK132.out 7).trans rfl
                      have hcz27_8 : wc.cell? ⟨gb132, 8, none⟩ = some (.int .i64 ((rd_T55 l0 x12_1).f8)) := (blk_cell BK132.out 8).trans rfl
                      have hfz27_0 := blk_frozen BK132.out 0
                      have hfz27_1 := blk_frozen BK132.out 1
                      have hfz27_2 := blk_frozen BK132.out 2
                      have hfz27_3 := blk_frozen BK132.out 3
                      have hfz27_4 := blk_frozen BK132.out 4
                      have hfz27_5 := blk_frozen BK132.out 5
                      have hfz27_6 := blk_frozen BK132.out 6
                      have hfz27_7 := blk_frozen BK132.out 7
                      have hfz27_8 := blk_frozen BK132.out 8
                      try go_wp2
                      have n0_ := Aside0.mk (blk_drew BK130.out)
                      have n1_ := Aside0.mk (blk_drew BK132.out)
                      have n2_ := Aside0.mk (below_drew1 HB.out)
                      clear BK130
                      clear BK132
                      clear HB
                      have BK130 := n0_
                      have BK132 := n1_
                      have HB := n2_
                      clear n0_ n1_ n2_
                      refine start_ (n := 3) (S := fun w' => w'.cell? ⟨gb132, 0, none⟩ = some (.int .i64 ((rd_T55 l0 x12_1).f0)) ∧ w'.cell? ⟨gb132, 1, none⟩ = some (.int .i64 ((rd_T55 l0 x12_1).f1)) ∧ w'.cell? ⟨gb132, 2, none⟩ = some (.int .i64 ((rd_T55 l0 x12_1).f2)) ∧ w'.cell? ⟨gb132, 3, none⟩ = some (.int .i64 ((rd_T55 l0 x12_1).f3)) ∧ w'.cell? ⟨gb132, 4, none⟩ = some (.int .i64 ((rd_T55 l0 x12_1).f4)) ∧ w'.cell? ⟨gb132, 5, none⟩ = some (.int .i64 ((rd_T55 l0 x12_1).f5)) ∧ w'.cell? ⟨gb132, 6, none⟩ = some (.int .i64 ((rd_T55 l0 x12_1).f6)) ∧ w'.cell? ⟨gb132, 7, none⟩ = some (.int .i64 ((rd_T55 l0 x12_1).f7)) ∧ w'.cell? ⟨gb132, 8, none⟩ = some (.int .i64 ((rd_T55 l0 x12_1).f8))) (ds := []) #[false, false, false] (by kernel_rfl) rfl rfl ⟨(blk_cell BK132.out 0).trans rfl, (blk_cell BK132.out 1).trans rfl, (blk_cell BK132.out 2).trans rfl, (blk_cell BK132.out 3).trans rfl, (blk_cell BK132.out 4).trans rfl, (blk_cell BK132.out 5).trans rfl, (blk_cell BK132.out 6).trans rfl, (blk_cell BK132.out 7).trans rfl, (blk_cell BK132.out 8).trans rfl⟩ (fun hHeld => ?_)
                      generalize wc.drew = w28 at BK130 BK132 HB hHeld ⊢
                      refine pure_ (i := 1) (N := some 5) (v := ?_) (a' := ?_) #[false, true, false] rfl rfl (by kernel_rfl) (fun _ _ _ h => h) (Or.inl ⟨by rfl, ?_⟩) ?_ ?_
                      rotate_left
                      · intro w'
                        go_simp
                        with_reducible rfl
                      rotate_left
                      · simp only [Act.put, List.setIfInBounds_toArray, List.set_cons_zero, List.set_cons_succ, i64_w, i32_w]
                        rfl
                      refine take_ (i := 0) (N := some 29) (v := ?_) (a' := ?_) #[true, true, false] rfl rfl (by kernel_rfl) (fun _ _ _ h => h) (Or.inl ⟨by rfl, ?_⟩) hHeld ?_ ?_
                      rotate_left
                      · rintro w' ⟨s0, s1, s2, s3, s4, s5, s6, s7, s8⟩
                        go_simp
                        with_reducible rfl
                      rotate_left
                      · simp only [Act.put, List.setIfInBounds_toArray, List.set_cons_zero, List.set_cons_succ, i64_w, i32_w]
                        rfl
                      refine one_ (i := 2) (N := none) #[true, true, true] rfl rfl (by kernel_rfl) (by decide) (fun K hK => ?_)
                      have hs29 : w28.cell? ⟨gb130, 0, none⟩ = some (.int .i64 x131000_1) := (blk_cell BK130.out 0).trans rfl
                      have hfs29 := blk_frozen BK130.out 0
                      have hns29_1 := NB132_130.out
                      have hms29_1 := NB130_132.out
                      have hs30 : w28.cell? ⟨gb130, 1, none⟩ = some (.int .i64 x131001_1) := (blk_cell BK130.out 1).trans rfl
                      have hfs30 := blk_frozen BK130.out 1
                      have hns30_1 := NB132_130.out
                      have hms30_1 := NB130_132.out
                      have hs31 : w28.cell? ⟨gb130, 2, none⟩ = some (.int .i64 x131002_1) := (blk_cell BK130.out 2).trans rfl
                      have hfs31 := blk_frozen BK130.out 2
                      have hns31_1 := NB132_130.out
                      have hms31_1 := NB130_132.out
                      have hs32 : w28.cell? ⟨gb130, 3, none⟩ = some (.int .i64 x131003_1) := (blk_cell BK130.out 3).trans rfl
                      have hfs32 := blk_frozen BK130.out 3
                      have hns32_1 := NB132_130.out
                      have hms32_1 := NB130_132.out
                      have hs33 : w28.cell? ⟨gb130, 4, none⟩ = some (.int .i64 x131004_1) := (blk_cell BK130.out 4).trans rfl
                      have hfs33 := blk_frozen BK130.out 4
                      have hns33_1 := NB132_130.out
                      have hms33_1 := NB130_132.out
                      have hs34 : w28.cell? ⟨gb130, 5, none⟩ = some (.int .i64 x131005_1) := (blk_cell BK130.out 5).trans rfl
                      have hfs34 := blk_frozen BK130.out 5
                      have hns34_1 := NB132_130.out
                      have hms34_1 := NB130_132.out
                      have hs35 : w28.cell? ⟨gb130, 6, none⟩ = some (.int .i64 x131006_1) := (blk_cell BK130.out 6).trans rfl
                      have hfs35 := blk_frozen BK130.out 6
                      have hns35_1 := NB132_130.out
                      have hms35_1 := NB130_132.out
                      have hs36 : w28.cell? ⟨gb130, 7, none⟩ = some (.int .i64 x131007_1) := (blk_cell BK130.out 7).trans rfl
                      have hfs36 := blk_frozen BK130.out 7
                      have hns36_1 := NB132_130.out
                      have hms36_1 := NB130_132.out
                      have hs37 : w28.cell? ⟨gb130, 8, none⟩ = some (.int .i64 x131008_1) := (blk_cell BK130.out 8).trans rfl
                      have hfs37 := blk_frozen BK130.out 8
                      have hns37_1 := NB132_130.out
                      have hms37_1 := NB130_132.out
                      refine skip_ (w1 := ?_) (by rfl) rfl ?_ ?_
                      rotate_left
                      · go_simp
                        rfl
                      refine hK.out _ _ ⟨((cell_far (p := ⟨gb130, _, none⟩) NB132_130.out _).trans (((cell_far (p := ⟨gb130, _, none⟩) NB132_130.out _).trans (((cell_far (p := ⟨gb130, _, none⟩) NB132_130.out _).trans (((cell_far (p := ⟨gb130, _, none⟩) NB132_130.out _).trans (((cell_far (p := ⟨gb130, _, none⟩) NB132_130.out _).trans (((cell_far (p := ⟨gb130, _, none⟩) NB132_130.out _).trans (((cell_far (p := ⟨gb130, _, none⟩) NB132_130.out _).trans (((cell_far (p := ⟨gb130, _, none⟩) NB132_130.out _).trans (((cell_far (p := ⟨gb130, _, none⟩) NB132_130.out _).trans (hHeld.1)))))))))))))))))), ((cell_far (p := ⟨gb130, _, none⟩) NB132_130.out _).trans (((cell_far (p := ⟨gb130, _, none⟩) NB132_130.out _).trans (((cell_far (p := ⟨gb130, _, none⟩) NB132_130.out _).trans (((cell_far (p := ⟨gb130, _, none⟩) NB132_130.out _).trans (((cell_far (p := ⟨gb130, _, none⟩) NB132_130.out _).trans (((cell_far (p := ⟨gb130, _, none⟩) NB132_130.out _).trans (((cell_far (p := ⟨gb130, _, none⟩) NB132_130.out _).trans (((cell_far (p := ⟨gb130, _, none⟩) NB132_130.out _).trans (((cell_far (p := ⟨gb130, _, none⟩) NB132_130.out _).trans (hHeld.2.1)))))))))))))))))), ((cell_far (p := ⟨gb130, _, none⟩) NB132_130.out _).trans (((cell_far (p := ⟨gb130, _, none⟩) NB132_130.out _).trans (((cell_far (p := ⟨gb130, _, none⟩) NB132_130.out _).trans (((cell_far (p := ⟨gb130, _, none⟩) NB132_130.out _).trans (((cell_far (p := ⟨gb130, _, none⟩) NB132_130.out _).trans (((cell_far (p := ⟨gb130, _, none⟩) NB132_130.out _).trans (((cell_far (p := ⟨gb130, _, none⟩) NB132_130.out _).trans (((cell_far (p := ⟨gb130, _, none⟩) NB132_130.out _).trans (((cell_far (p := ⟨gb130, _, none⟩) NB132_130.out _).trans (hHeld.2.2.1)))))))))))))))))), ((cell_far (p := ⟨gb130, _, none⟩) NB132_130.out _).trans (((cell_far (p := ⟨gb130, _, none⟩) NB132_130.out _).trans (((cell_far (p := ⟨gb130, _, none⟩) NB132_130.out _).trans (((cell_far (p := ⟨gb130, _, none⟩) NB132_130.out _).trans (((cell_far (p := ⟨gb130, _, none⟩) NB132_130.out _).trans (((cell_far (p := ⟨gb130, _, none⟩) NB132_130.out _).trans (((cell_far (p := ⟨gb130, _, none⟩) NB132_130.out _).trans (((cell_far (p := ⟨gb130, _, none⟩) NB132_130.out _).trans (((cell_far (p := ⟨gb130, _, none⟩) NB132_130.out _).trans (hHeld.2.2.2.1)))))))))))))))))), ((cell_far (p := ⟨gb130, _, none⟩) NB132_130.out _).trans (((cell_far (p := ⟨gb130, _, none⟩) NB132_130.out _).trans (((cell_far (p := ⟨gb130, _, none⟩) NB132_130.out _).trans (((cell_far (p := ⟨gb130, _, none⟩) NB132_130.out _).trans (((cell_far (p := ⟨gb130, _, none⟩) NB132_130.out _).trans (((cell_far (p := ⟨gb130, _, none⟩) NB132_130.out _).trans (((cell_far (p := ⟨gb130, _, none⟩) NB132_130.out _).trans (((cell_far (p := ⟨gb130, _, none⟩) NB132_130.out _).trans (((cell_far (p := ⟨gb130, _, none⟩) NB132_130.out _).trans (hHeld.2.2.2.2.1)))))))))))))))))), ((cell_far (p := ⟨gb130, _, none⟩) NB132_130.out _).trans (((cell_far (p := ⟨gb130, _, none⟩) NB132_130.out _).trans (((cell_far (p := ⟨gb130, _, none⟩) NB132_130.out _).trans (((cell_far (p := ⟨gb130, _, none⟩) NB132_130.out _).trans (((cell_far (p := ⟨gb130, _, none⟩) NB132_130.out _).trans (((cell_far (p := ⟨gb130, _, none⟩) NB132_130.out _).trans (((cell_far (p := ⟨gb130, _, none⟩) NB132_130.out _).trans (((cell_far (p := ⟨gb130, _, none⟩) NB132_130.out _).trans (((cell_far (p := ⟨gb130, _, none⟩) NB132_130.out _).trans (hHeld.2.2.2.2.2.1)))))))))))))))))), ((cell_far (p := ⟨gb130, _, none⟩) NB132_130.out _).trans (((cell_far (p := ⟨gb130, _, none⟩) NB132_130.out _).trans (((cell_far (p := ⟨gb130, _, none⟩) NB132_130.out _).trans (((cell_far (p := ⟨gb130, _, none⟩) NB132_130.out _).trans (((cell_far (p := ⟨gb130, _, none⟩) NB132_130.out _).trans (((cell_far (p := ⟨gb130, _, none⟩) NB132_130.out _).trans (((cell_far (p := ⟨gb130, _, none⟩) NB132_130.out _).trans (((cell_far (p := ⟨gb130, _, none⟩) NB132_130.out _).trans (((cell_far (p := ⟨gb130, _, none⟩) NB132_130.out _).trans (hHeld.2.2.2.2.2.2.1)))))))))))))))))), ((cell_far (p := ⟨gb130, _, none⟩) NB132_130.out _).trans (((cell_far (p := ⟨gb130, _, none⟩) NB132_130.out _).trans (((cell_far (p := ⟨gb130, _, none⟩) NB132_130.out _).trans (((cell_far (p := ⟨gb130, _, none⟩) NB132_130.out _).trans (((cell_far (p := ⟨gb130, _, none⟩) NB132_130.out _).trans (((cell_far (p := ⟨gb130, _, none⟩) NB132_130.out _).trans (((cell_far (p := ⟨gb130, _, none⟩) NB132_130.out _).trans (((cell_far (p := ⟨gb130, _, none⟩) NB132_130.out _).trans (((cell_far (p := ⟨gb130, _, none⟩) NB132_130.out _).trans (hHeld.2.2.2.2.2.2.2.1)))))))))))))))))), ((cell_far (p := ⟨gb130, _, none⟩) NB132_130.out _).trans (((cell_far (p := ⟨gb130, _, none⟩) NB132_130.out _).trans (((cell_far (p := ⟨gb130, _, none⟩) NB132_130.out _).trans (((cell_far (p := ⟨gb130, _, none⟩) NB132_130.out _).trans (((cell_far (p := ⟨gb130, _, none⟩) NB132_130.out _).trans (((cell_far (p := ⟨gb130, _, none⟩) NB132_130.out _).trans (((cell_far (p := ⟨gb130, _, none⟩) NB132_130.out _).trans (((cell_far (p := ⟨gb130, _, none⟩) NB132_130.out _).trans (((cell_far (p := ⟨gb130, _, none⟩) NB132_130.out _).trans (hHeld.2.2.2.2.2.2.2.2))))))))))))))))))⟩ (fun hHeld => ?_)
                      clear hK K
                      refine done_ (by kernel_rfl) ?_
                      try go_wp2
                      go_roundg kj7
                      case measure => have := HK1.out; have := HJ7.out; omega
                      case rel => exact ⟨(true), (wrap64 (x12_1 + 1)), (((rd_T55 l0 x12_1).f0)), (((rd_T55 l0 x12_1).f1)), (((rd_T55 l0 x12_1).f2)), (((rd_T55 l0 x12_1).f3)), (((rd_T55 l0 x12_1).f4)), (((rd_T55 l0 x12_1).f5)), (((rd_T55 l0 x12_1).f6)), (((rd_T55 l0 x12_1).f7)), (((rd_T55 l0 x12_1).f8)), (by first | rfl | (simp; done) | (simp [*]; done)), (by first | rfl | (simp; done) | (simp [*]; done)), H', ⟨by have := HK1.out; have := HJ7.out; omega⟩, ⟨by (with_reducible repeat (first | refine blk_drewN ?_ _ | refine blk_drew ?_ | refine blk_alloc ?_ _)); refine blk_put (cs := #[.int .i64 ((rd_T55 l0 x12_1).f0), .int .i64 ((rd_T55 l0 x12_1).f1), .int .i64 ((rd_T55 l0 x12_1).f2), .int .i64 ((rd_T55 l0 x12_1).f3), .int .i64 ((rd_T55 l0 x12_1).f4), .int .i64 ((rd_T55 l0 x12_1).f5), .int .i64 ((rd_T55 l0 x12_1).f6), .int .i64 ((rd_T55 l0 x12_1).f7), .int .i64 x131008_1]) ?_ 8 _ rfl; (with_reducible repeat (first | refine blk_drewN ?_ _ | refine blk_drew ?_ | refine blk_alloc ?_ _)); refine blk_put (cs := #[.int .i64 ((rd_T55 l0 x12_1).f0), .int .i64 ((rd_T55 l0 x12_1).f1), .int .i64 ((rd_T55 l0 x12_1).f2), .int .i64 ((rd_T55 l0 x12_1).f3), .int .i64 ((rd_T55 l0 x12_1).f4), .int .i64 ((rd_T55 l0 x12_1).f5), .int .i64 ((rd_T55 l0 x12_1).f6), .int .i64 x131007_1, .int .i64 x131008_1]) ?_ 7 _ rfl; (with_reducible repeat (first | refine blk_drewN ?_ _ | refine blk_drew ?_ | refine blk_alloc ?_ _)); refine blk_put (cs := #[.int .i64 ((rd_T55 l0 x12_1).f0), .int .i64 ((rd_T55 l0 x12_1).f1), .int .i64 ((rd_T55 l0 x12_1).f2), .int .i64 ((rd_T55 l0 x12_1).f3), .int .i64 ((rd_T55 l0 x12_1).f4), .int .i64 ((rd_T55 l0 x12_1).f5), .int .i64 x131006_1, .int .i64 x131007_1, .int .i64 x131008_1]) ?_ 6 _ rfl; (with_reducible repeat (first | refine blk_drewN ?_ _ | refine blk_drew ?_ | refine blk_alloc ?_ _)); refine blk_put (cs := #[.int .i64 ((rd_T55 l0 x12_1).f0), .int .i64 ((rd_T55 l0 x12_1).f1), .int .i64 ((rd_T55 l0 x12_1).f2), .int .i64 ((rd_T55 l0 x12_1).f3), .int .i64 ((rd_T55 l0 x12_1).f4), .int .i64 x131005_1, .int .i64 x131006_1, .int .i64 x131007_1, .int .i64 x131008_1]) ?_ 5 _ rfl; (with_reducible repeat (first | refine blk_drewN ?_ _ | refine blk_drew ?_ | refine blk_alloc ?_ _)); refine blk_put (cs := #[.int .i64 ((rd_T55 l0 x12_1).f0), .int .i64 ((rd_T55 l0 x12_1).f1), .int .i64 ((rd_T55 l0 x12_1).f2), .int .i64 ((rd_T55 l0 x12_1).f3), .int .i64 x131004_1, .int .i64 x131005_1, .int .i64 x131006_1, .int .i64 x131007_1, .int .i64 x131008_1]) ?_ 4 _ rfl; (with_reducible repeat (first | refine blk_drewN ?_ _ | refine blk_drew ?_ | refine blk_alloc ?_ _)); refine blk_put (cs := #[.int .i64 ((rd_T55 l0 x12_1).f0), .int .i64 ((rd_T55 l0 x12_1).f1), .int .i64 ((rd_T55 l0 x12_1).f2), .int .i64 x131003_1, .int .i64 x131004_1, .int .i64 x131005_1, .int .i64 x131006_1, .int .i64 x131007_1, .int .i64 x131008_1]) ?_ 3 _ rfl; (with_reducible repeat (first | refine blk_drewN ?_ _ | refine blk_drew ?_ | refine blk_alloc ?_ _)); refine blk_put (cs := #[.int .i64 ((rd_T55 l0 x12_1).f0), .int .i64 ((rd_T55 l0 x12_1).f1), .int .i64 x131002_1, .int .i64 x131003_1, .int .i64 x131004_1, .int .i64 x131005_1, .int .i64 x131006_1, .int .i64 x131007_1, .int .i64 x131008_1]) ?_ 2 _ rfl; (with_reducible repeat (first | refine blk_drewN ?_ _ | refine blk_drew ?_ | refine blk_alloc ?_ _)); refine blk_put (cs := #[.int .i64 ((rd_T55 l0 x12_1).f0), .int .i64 x131001_1, .int .i64 x131002_1, .int .i64 x131003_1, .int .i64 x131004_1, .int .i64 x131005_1, .int .i64 x131006_1, .int .i64 x131007_1, .int .i64 x131008_1]) ?_ 1 _ rfl; (with_reducible repeat (first | refine blk_drewN ?_ _ | refine blk_drew ?_ | refine blk_alloc ?_ _)); refine blk_put (cs := #[.int .i64 x131000_1, .int .i64 x131001_1, .int .i64 x131002_1, .int .i64 x131003_1, .int .i64 x131004_1, .int .i64 x131005_1, .int .i64 x131006_1, .int .i64 x131007_1, .int .i64 x131008_1]) ?_ 0 _ rfl; (with_reducible repeat (first | refine blk_drewN ?_ _ | refine blk_drew ?_ | refine blk_alloc ?_ _)); exact BK130.out⟩, ⟨by repeat (first | (with_reducible first | exact HB.out | apply below_alloc | apply pw_below_drewN | apply below_drew1 | refine below_set ?_ GE130.out | refine below_set ?_ GE132.out) | exact HB.out)⟩⟩
                  · rw [if_neg c22] at H
                    have c22b0 : (((rd_T55 l0 x12_1).f0) == 1) = false := beq_eq_false_iff_ne.mpr c22
                    have c22b1 : (((rd_T55 l0 x12_1).f0) != 1) = true := bne_iff_ne.mpr c22
                    by_cases c38 : x5_1 = true
                    · subst c38
                      have H1 : (if ((rd_T55 l0 x12_1).f6) = x131006_1 then (if ((rd_T55 l0 x12_1).f7) = x131007_1 then (if ((rd_T55 l0 x12_1).f0) = 4 then (impl_WholeAsk.l0 kj7 a1 false l0 (l0.length : Int) (wrap64 (x12_1 + 1)) x131000_1 x131001_1 x131002_1 x131003_1 x131004_1 x131005_1 x131006_1 x131007_1 x131008_1) else (impl_WholeAsk.l0 kj7 a1 (((rd_T55 l0 x12_1).f0) != 5) l0 (l0.length : Int) (wrap64 (x12_1 + 1)) x131000_1 x131001_1 x131002_1 x131003_1 x131004_1 x131005_1 x131006_1 x131007_1 x131008_1)) else (some false)) else (some false)) = some r := by rw [if_pos rfl] at H; exact H
                      clear H
                      have H := H1
                      clear H1
                      by_cases c39 : ((rd_T55 l0 x12_1).f6) = x131006_1
                      · rw [if_pos c39] at H
                        have c39b0 : (((rd_T55 l0 x12_1).f6) == x131006_1) = true := beq_iff_eq.mpr c39
                        have c39b1 : (((rd_T55 l0 x12_1).f6) != x131006_1) = false := bne_eq_false_iff_eq.mpr c39
                        clear c39
                        by_cases c40 : ((rd_T55 l0 x12_1).f7) = x131007_1
                        · rw [if_pos c40] at H
                          have c40b0 : (((rd_T55 l0 x12_1).f7) == x131007_1) = true := beq_iff_eq.mpr c40
                          have c40b1 : (((rd_T55 l0 x12_1).f7) != x131007_1) = false := bne_eq_false_iff_eq.mpr c40
                          clear c40
                          by_cases c41 : ((rd_T55 l0 x12_1).f0) = 4
                          · rw [if_pos c41] at H
                            have c41b0 : (((rd_T55 l0 x12_1).f0) == 4) = true := beq_iff_eq.mpr c41
                            have c41b1 : (((rd_T55 l0 x12_1).f0) != 4) = false := bne_eq_false_iff_eq.mpr c41
                            clear c41
                            have H' := Aside0.mk H
                            clear H
                            have hnb42 := NB132_130.out
                            have hnc42 := NB130_132.out
                            have hcz43_0 : wc.cell? ⟨gb132, 0, none⟩ = some (.int .i64 ((rd_T55 l0 x12_1).f0)) := (blk_cell BK132.out 0).trans rfl
                            have hcz43_1 : wc.cell? ⟨gb132, 1, none⟩ = some (.int .i64 ((rd_T55 l0 x12_1).f1)) := (blk_cell BK132.out 1).trans rfl
                            have hcz43_2 : wc.cell? ⟨gb132, 2, none⟩ = some (.int .i64 ((rd_T55 l0 x12_1).f2)) := (blk_cell BK132.out 2).trans rfl
                            have hcz43_3 : wc.cell? ⟨gb132, 3, none⟩ = some (.int .i64 ((rd_T55 l0 x12_1).f3)) := (blk_cell BK132.out 3).trans rfl
                            have hcz43_4 : wc.cell? ⟨gb132, 4, none⟩ = some (.int .i64 ((rd_T55 l0 x12_1).f4)) := (blk_cell BK132.out 4).trans rfl
                            have hcz43_5 : wc.cell? ⟨gb132, 5, none⟩ = some (.int .i64 ((rd_T55 l0 x12_1).f5)) := (blk_cell BK132.out 5).trans rfl
                            have hcz43_6 : wc.cell? ⟨gb132, 6, none⟩ = some (.int .i64 ((rd_T55 l0 x12_1).f6)) := (blk_cell BK132.out 6).trans rfl
                            have hcz43_7 : wc.cell? ⟨gb132, 7, none⟩ = some (.int .i64 ((rd_T55 l0 x12_1).f7)) := (blk_cell BK132.out 7).trans rfl
                            have hcz43_8 : wc.cell? ⟨gb132, 8, none⟩ = some (.int .i64 ((rd_T55 l0 x12_1).f8)) := (blk_cell BK132.out 8).trans rfl
                            have hfz43_0 := blk_frozen BK132.out 0
                            have hfz43_1 := blk_frozen BK132.out 1
                            have hfz43_2 := blk_frozen BK132.out 2
                            have hfz43_3 := blk_frozen BK132.out 3
                            have hfz43_4 := blk_frozen BK132.out 4
                            have hfz43_5 := blk_frozen BK132.out 5
                            have hfz43_6 := blk_frozen BK132.out 6
                            have hfz43_7 := blk_frozen BK132.out 7
                            have hfz43_8 := blk_frozen BK132.out 8
                            have hcz44_0 : wc.cell? ⟨gb130, 0, none⟩ = some (.int .i64 x131000_1) := (blk_cell BK130.out 0).trans rfl
                            have hcz44_1 : wc.cell? ⟨gb130, 1, none⟩ = some (.int .i64 x131001_1) := (blk_cell BK130.out 1).trans rfl
                            have hcz44_2 : wc.cell? ⟨gb130, 2, none⟩ = some (.int .i64 x131002_1) := (blk_cell BK130.out 2).trans rfl
                            have hcz44_3 : wc.cell? ⟨gb130, 3, none⟩ = some (.int .i64 x131003_1) := (blk_cell BK130.out 3).trans rfl
                            have hcz44_4 : wc.cell? ⟨gb130, 4, none⟩ = some (.int .i64 x131004_1) := (blk_cell BK130.out 4).trans rfl
                            have hcz44_5 : wc.cell? ⟨gb130, 5, none⟩ = some (.int .i64 x131005_1) := (blk_cell BK130.out 5).trans rfl
                            have hcz44_6 : wc.cell? ⟨gb130, 6, none⟩ = some (.int .i64 x131006_1) := (blk_cell BK130.out 6).trans rfl
                            have hcz44_7 : wc.cell? ⟨gb130, 7, none⟩ = some (.int .i64 x131007_1) := (blk_cell BK130.out 7).trans rfl
                            have hcz44_8 : wc.cell? ⟨gb130, 8, none⟩ = some (.int .i64 x131008_1) := (blk_cell BK130.out 8).trans rfl
                            have hfz44_0 := blk_frozen BK130.out 0
                            have hfz44_1 := blk_frozen BK130.out 1
                            have hfz44_2 := blk_frozen BK130.out 2
                            have hfz44_3 := blk_frozen BK130.out 3
                            have hfz44_4 := blk_frozen BK130.out 4
                            have hfz44_5 := blk_frozen BK130.out 5
                            have hfz44_6 := blk_frozen BK130.out 6
                            have hfz44_7 := blk_frozen BK130.out 7
                            have hfz44_8 := blk_frozen BK130.out 8
                            go_wp2
                            go_roundg kj7
                            case measure => have := HK1.out; have := HJ7.out; omega
                            case rel => exact ⟨(false), (wrap64 (x12_1 + 1)), (x131000_1), (x131001_1), (x131002_1), (x131003_1), (x131004_1), (x131005_1), (x131006_1), (x131007_1), (x131008_1), (by first | rfl | (simp; done) | (simp [*]; done)), (by first | rfl | (simp; done) | (simp [*]; done)), H', ⟨by have := HK1.out; have := HJ7.out; omega⟩, ⟨by (with_reducible repeat (first | refine blk_drewN ?_ _ | refine blk_drew ?_ | refine blk_alloc ?_ _)); exact BK130.out⟩, ⟨by repeat (first | (with_reducible first | exact HB.out | apply below_alloc | apply pw_below_drewN | apply below_drew1 | refine below_set ?_ GE130.out | refine below_set ?_ GE132.out) | exact HB.out)⟩⟩
                          · rw [if_neg c41] at H
                            have c41b0 : (((rd_T55 l0 x12_1).f0) == 4) = false := beq_eq_false_iff_ne.mpr c41
                            have c41b1 : (((rd_T55 l0 x12_1).f0) != 4) = true := bne_iff_ne.mpr c41
                            have H' := Aside0.mk H
                            clear H
                            have hnb45 := NB132_130.out
                            have hnc45 := NB130_132.out
                            have hcz46_0 : wc.cell? ⟨gb132, 0, none⟩ = some (.int .i64 ((rd_T55 l0 x12_1).f0)) := (blk_cell BK132.out 0).trans rfl
                            have hcz46_1 : wc.cell? ⟨gb132, 1, none⟩ = some (.int .i64 ((rd_T55 l0 x12_1).f1)) := (blk_cell BK132.out 1).trans rfl
                            have hcz46_2 : wc.cell? ⟨gb132, 2, none⟩ = some (.int .i64 ((rd_T55 l0 x12_1).f2)) := (blk_cell BK132.out 2).trans rfl
                            have hcz46_3 : wc.cell? ⟨gb132, 3, none⟩ = some (.int .i64 ((rd_T55 l0 x12_1).f3)) := (blk_cell BK132.out 3).trans rfl
                            have hcz46_4 : wc.cell? ⟨gb132, 4, none⟩ = some (.int .i64 ((rd_T55 l0 x12_1).f4)) := (blk_cell BK132.out 4).trans rfl
                            have hcz46_5 : wc.cell? ⟨gb132, 5, none⟩ = some (.int .i64 ((rd_T55 l0 x12_1).f5)) := (blk_cell BK132.out 5).trans rfl
                            have hcz46_6 : wc.cell? ⟨gb132, 6, none⟩ = some (.int .i64 ((rd_T55 l0 x12_1).f6)) := (blk_cell BK132.out 6).trans rfl
                            have hcz46_7 : wc.cell? ⟨gb132, 7, none⟩ = some (.int .i64 ((rd_T55 l0 x12_1).f7)) := (blk_cell BK132.out 7).trans rfl
                            have hcz46_8 : wc.cell? ⟨gb132, 8, none⟩ = some (.int .i64 ((rd_T55 l0 x12_1).f8)) := (blk_cell BK132.out 8).trans rfl
                            have hfz46_0 := blk_frozen BK132.out 0
                            have hfz46_1 := blk_frozen BK132.out 1
                            have hfz46_2 := blk_frozen BK132.out 2
                            have hfz46_3 := blk_frozen BK132.out 3
                            have hfz46_4 := blk_frozen BK132.out 4
                            have hfz46_5 := blk_frozen BK132.out 5
                            have hfz46_6 := blk_frozen BK132.out 6
                            have hfz46_7 := blk_frozen BK132.out 7
                            have hfz46_8 := blk_frozen BK132.out 8
                            have hcz47_0 : wc.cell? ⟨gb130, 0, none⟩ = some (.int .i64 x131000_1) := (blk_cell BK130.out 0).trans rfl
                            have hcz47_1 : wc.cell? ⟨gb130, 1, none⟩ = some (.int .i64 x131001_1) := (blk_cell BK130.out 1).trans rfl
                            have hcz47_2 : wc.cell? ⟨gb130, 2, none⟩ = some (.int .i64 x131002_1) := (blk_cell BK130.out 2).trans rfl
                            have hcz47_3 : wc.cell? ⟨gb130, 3, none⟩ = some (.int .i64 x131003_1) := (blk_cell BK130.out 3).trans rfl
                            have hcz47_4 : wc.cell? ⟨gb130, 4, none⟩ = some (.int .i64 x131004_1) := (blk_cell BK130.out 4).trans rfl
                            have hcz47_5 : wc.cell? ⟨gb130, 5, none⟩ = some (.int .i64 x131005_1) := (blk_cell BK130.out 5).trans rfl
                            have hcz47_6 : wc.cell? ⟨gb130, 6, none⟩ = some (.int .i64 x131006_1) := (blk_cell BK130.out 6).trans rfl
                            have hcz47_7 : wc.cell? ⟨gb130, 7, none⟩ = some (.int .i64 x131007_1) := (blk_cell BK130.out 7).trans rfl
                            have hcz47_8 : wc.cell? ⟨gb130, 8, none⟩ = some (.int .i64 x131008_1) := (blk_cell BK130.out 8).trans rfl
                            have hfz47_0 := blk_frozen BK130.out 0
                            have hfz47_1 := blk_frozen BK130.out 1
                            have hfz47_2 := blk_frozen BK130.out 2
                            have hfz47_3 := blk_frozen BK130.out 3
                            have hfz47_4 := blk_frozen BK130.out 4
                            have hfz47_5 := blk_frozen BK130.out 5
                            have hfz47_6 := blk_frozen BK130.out 6
                            have hfz47_7 := blk_frozen BK130.out 7
                            have hfz47_8 := blk_frozen BK130.out 8
                            go_wp2
                            go_roundg kj7
                            case measure => have := HK1.out; have := HJ7.out; omega
                            case rel => exact ⟨((((rd_T55 l0 x12_1).f0) != 5)), (wrap64 (x12_1 + 1)), (x131000_1), (x131001_1), (x131002_1), (x131003_1), (x131004_1), (x131005_1), (x131006_1), (x131007_1), (x131008_1), (by first | rfl | (simp; done) | (simp [*]; done)), (by first | rfl | (simp; done) | (simp [*]; done)), H', ⟨by have := HK1.out; have := HJ7.out; omega⟩, ⟨by (with_reducible repeat (first | refine blk_drewN ?_ _ | refine blk_drew ?_ | refine blk_alloc ?_ _)); exact BK130.out⟩, ⟨by repeat (first | (with_reducible first | exact HB.out | apply below_alloc | apply pw_below_drewN | apply below_drew1 | refine below_set ?_ GE130.out | refine below_set ?_ GE132.out) | exact HB.out)⟩⟩
                        · rw [if_neg c40] at H
                          have c40b0 : (((rd_T55 l0 x12_1).f7) == x131007_1) = false := beq_eq_false_iff_ne.mpr c40
                          have c40b1 : (((rd_T55 l0 x12_1).f7) != x131007_1) = true := bne_iff_ne.mpr c40
                          obtain rfl := Option.some.inj H
                          have hnb48 := NB132_130.out
                          have hnc48 := NB130_132.out
                          have hcz49_0 : wc.cell? ⟨gb132, 0, none⟩ = some (.int .i64 ((rd_T55 l0 x12_1).f0)) := (blk_cell BK132.out 0).trans rfl
                          have hcz49_1 : wc.cell? ⟨gb132, 1, none⟩ = some (.int .i64 ((rd_T55 l0 x12_1).f1)) := (blk_cell BK132.out 1).trans rfl
                          have hcz49_2 : wc.cell? ⟨gb132, 2, none⟩ = some (.int .i64 ((rd_T55 l0 x12_1).f2)) := (blk_cell BK132.out 2).trans rfl
                          have hcz49_3 : wc.cell? ⟨gb132, 3, none⟩ = some (.int .i64 ((rd_T55 l0 x12_1).f3)) := (blk_cell BK132.out 3).trans rfl
                          have hcz49_4 : wc.cell? ⟨gb132, 4, none⟩ = some (.int .i64 ((rd_T55 l0 x12_1).f4)) := (blk_cell BK132.out 4).trans rfl
                          have hcz49_5 : wc.cell? ⟨gb132, 5, none⟩ = some (.int .i64 ((rd_T55 l0 x12_1).f5)) := (blk_cell BK132.out 5).trans rfl
                          have hcz49_6 : wc.cell? ⟨gb132, 6, none⟩ = some (.int .i64 ((rd_T55 l0 x12_1).f6)) := (blk_cell BK132.out 6).trans rfl
                          have hcz49_7 : wc.cell? ⟨gb132, 7, none⟩ = some (.int .i64 ((rd_T55 l0 x12_1).f7)) := (blk_cell BK132.out 7).trans rfl
                          have hcz49_8 : wc.cell? ⟨gb132, 8, none⟩ = some (.int .i64 ((rd_T55 l0 x12_1).f8)) := (blk_cell BK132.out 8).trans rfl
                          have hfz49_0 := blk_frozen BK132.out 0
                          have hfz49_1 := blk_frozen BK132.out 1
                          have hfz49_2 := blk_frozen BK132.out 2
                          have hfz49_3 := blk_frozen BK132.out 3
                          have hfz49_4 := blk_frozen BK132.out 4
                          have hfz49_5 := blk_frozen BK132.out 5
                          have hfz49_6 := blk_frozen BK132.out 6
                          have hfz49_7 := blk_frozen BK132.out 7
                          have hfz49_8 := blk_frozen BK132.out 8
                          have hcz50_0 : wc.cell? ⟨gb130, 0, none⟩ = some (.int .i64 x131000_1) := (blk_cell BK130.out 0).trans rfl
                          have hcz50_1 : wc.cell? ⟨gb130, 1, none⟩ = some (.int .i64 x131001_1) := (blk_cell BK130.out 1).trans rfl
                          have hcz50_2 : wc.cell? ⟨gb130, 2, none⟩ = some (.int .i64 x131002_1) := (blk_cell BK130.out 2).trans rfl
                          have hcz50_3 : wc.cell? ⟨gb130, 3, none⟩ = some (.int .i64 x131003_1) := (blk_cell BK130.out 3).trans rfl
                          have hcz50_4 : wc.cell? ⟨gb130, 4, none⟩ = some (.int .i64 x131004_1) := (blk_cell BK130.out 4).trans rfl
                          have hcz50_5 : wc.cell? ⟨gb130, 5, none⟩ = some (.int .i64 x131005_1) := (blk_cell BK130.out 5).trans rfl
                          have hcz50_6 : wc.cell? ⟨gb130, 6, none⟩ = some (.int .i64 x131006_1) := (blk_cell BK130.out 6).trans rfl
                          have hcz50_7 : wc.cell? ⟨gb130, 7, none⟩ = some (.int .i64 x131007_1) := (blk_cell BK130.out 7).trans rfl
                          have hcz50_8 : wc.cell? ⟨gb130, 8, none⟩ = some (.int .i64 x131008_1) := (blk_cell BK130.out 8).trans rfl
                          have hfz50_0 := blk_frozen BK130.out 0
                          have hfz50_1 := blk_frozen BK130.out 1
                          have hfz50_2 := blk_frozen BK130.out 2
                          have hfz50_3 := blk_frozen BK130.out 3
                          have hfz50_4 := blk_frozen BK130.out 4
                          have hfz50_5 := blk_frozen BK130.out 5
                          have hfz50_6 := blk_frozen BK130.out 6
                          have hfz50_7 := blk_frozen BK130.out 7
                          have hfz50_8 := blk_frozen BK130.out 8
                          go_wp2
                          go_ret
                          exact ⟨by first | rfl | (simp [errW_none, errW_some] <;> rfl) | (simp [*, errW_none, errW_some] <;> rfl), by repeat (first | (with_reducible first | exact HB.out | apply below_alloc | apply pw_below_drewN | apply below_drew1 | refine below_set ?_ GE130.out | refine below_set ?_ GE132.out) | exact HB.out)⟩
                      · rw [if_neg c39] at H
                        have c39b0 : (((rd_T55 l0 x12_1).f6) == x131006_1) = false := beq_eq_false_iff_ne.mpr c39
                        have c39b1 : (((rd_T55 l0 x12_1).f6) != x131006_1) = true := bne_iff_ne.mpr c39
                        obtain rfl := Option.some.inj H
                        have hnb51 := NB132_130.out
                        have hnc51 := NB130_132.out
                        have hcz52_0 : wc.cell? ⟨gb132, 0, none⟩ = some (.int .i64 ((rd_T55 l0 x12_1).f0)) := (blk_cell BK132.out 0).trans rfl
                        have hcz52_1 : wc.cell? ⟨gb132, 1, none⟩ = some (.int .i64 ((rd_T55 l0 x12_1).f1)) := (blk_cell BK132.out 1).trans rfl
                        have hcz52_2 : wc.cell? ⟨gb132, 2, none⟩ = some (.int .i64 ((rd_T55 l0 x12_1).f2)) := (blk_cell BK132.out 2).trans rfl
                        have hcz52_3 : wc.cell? ⟨gb132, 3, none⟩ = some (.int .i64 ((rd_T55 l0 x12_1).f3)) := (blk_cell BK132.out 3).trans rfl
                        have hcz52_4 : wc.cell? ⟨gb132, 4, none⟩ = some (.int .i64 ((rd_T55 l0 x12_1).f4)) := (blk_cell BK132.out 4).trans rfl
                        have hcz52_5 : wc.cell? ⟨gb132, 5, none⟩ = some (.int .i64 ((rd_T55 l0 x12_1).f5)) := (blk_cell BK132.out 5).trans rfl
                        have hcz52_6 : wc.cell? ⟨gb132, 6, none⟩ = some (.int .i64 ((rd_T55 l0 x12_1).f6)) := (blk_cell BK132.out 6).trans rfl
                        have hcz52_7 : wc.cell? ⟨gb132, 7, none⟩ = some (.int .i64 ((rd_T55 l0 x12_1).f7)) := (blk_cell BK132.out 7).trans rfl
                        have hcz52_8 : wc.cell? ⟨gb132, 8, none⟩ = some (.int .i64 ((rd_T55 l0 x12_1).f8)) := (blk_cell BK132.out 8).trans rfl
                        have hfz52_0 := blk_frozen BK132.out 0
                        have hfz52_1 := blk_frozen BK132.out 1
                        have hfz52_2 := blk_frozen BK132.out 2
                        have hfz52_3 := blk_frozen BK132.out 3
                        have hfz52_4 := blk_frozen BK132.out 4
                        have hfz52_5 := blk_frozen BK132.out 5
                        have hfz52_6 := blk_frozen BK132.out 6
                        have hfz52_7 := blk_frozen BK132.out 7
                        have hfz52_8 := blk_frozen BK132.out 8
                        have hcz53_0 : wc.cell? ⟨gb130, 0, none⟩ = some (.int .i64 x131000_1) := (blk_cell BK130.out 0).trans rfl
                        have hcz53_1 : wc.cell? ⟨gb130, 1, none⟩ = some (.int .i64 x131001_1) := (blk_cell BK130.out 1).trans rfl
                        have hcz53_2 : wc.cell? ⟨gb130, 2, none⟩ = some (.int .i64 x131002_1) := (blk_cell BK130.out 2).trans rfl
                        have hcz53_3 : wc.cell? ⟨gb130, 3, none⟩ = some (.int .i64 x131003_1) := (blk_cell BK130.out 3).trans rfl
                        have hcz53_4 : wc.cell? ⟨gb130, 4, none⟩ = some (.int .i64 x131004_1) := (blk_cell BK130.out 4).trans rfl
                        have hcz53_5 : wc.cell? ⟨gb130, 5, none⟩ = some (.int .i64 x131005_1) := (blk_cell BK130.out 5).trans rfl
                        have hcz53_6 : wc.cell? ⟨gb130, 6, none⟩ = some (.int .i64 x131006_1) := (blk_cell BK130.out 6).trans rfl
                        have hcz53_7 : wc.cell? ⟨gb130, 7, none⟩ = some (.int .i64 x131007_1) := (blk_cell BK130.out 7).trans rfl
                        have hcz53_8 : wc.cell? ⟨gb130, 8, none⟩ = some (.int .i64 x131008_1) := (blk_cell BK130.out 8).trans rfl
                        have hfz53_0 := blk_frozen BK130.out 0
                        have hfz53_1 := blk_frozen BK130.out 1
                        have hfz53_2 := blk_frozen BK130.out 2
                        have hfz53_3 := blk_frozen BK130.out 3
                        have hfz53_4 := blk_frozen BK130.out 4
                        have hfz53_5 := blk_frozen BK130.out 5
                        have hfz53_6 := blk_frozen BK130.out 6
                        have hfz53_7 := blk_frozen BK130.out 7
                        have hfz53_8 := blk_frozen BK130.out 8
                        go_wp2
                        go_ret
                        exact ⟨by first | rfl | (simp [errW_none, errW_some] <;> rfl) | (simp [*, errW_none, errW_some] <;> rfl), by repeat (first | (with_reducible first | exact HB.out | apply below_alloc | apply pw_below_drewN | apply below_drew1 | refine below_set ?_ GE130.out | refine below_set ?_ GE132.out) | exact HB.out)⟩
                    · replace c38 := Bool.eq_false_iff.mpr c38
                      subst c38
                      have H1 : (some false) = some r := by rw [if_neg (show ¬ (false = true) by decide)] at H; exact H
                      clear H
                      have H := H1
                      clear H1
                      obtain rfl := Option.some.inj H
                      have hnb54 := NB132_130.out
                      have hnc54 := NB130_132.out
                      have hcz55_0 : wc.cell? ⟨gb132, 0, none⟩ = some (.int .i64 ((rd_T55 l0 x12_1).f0)) := (blk_cell BK132.out 0).trans rfl
                      have hcz55_1 : wc.cell? ⟨gb132, 1, none⟩ = some (.int .i64 ((rd_T55 l0 x12_1).f1)) := (blk_cell BK132.out 1).trans rfl
                      have hcz55_2 : wc.cell? ⟨gb132, 2, none⟩ = some (.int .i64 ((rd_T55 l0 x12_1).f2)) := (blk_cell BK132.out 2).trans rfl
                      have hcz55_3 : wc.cell? ⟨gb132, 3, none⟩ = some (.int .i64 ((rd_T55 l0 x12_1).f3)) := (blk_cell BK132.out 3).trans rfl
                      have hcz55_4 : wc.cell? ⟨gb132, 4, none⟩ = some (.int .i64 ((rd_T55 l0 x12_1).f4)) := (blk_cell BK132.out 4).trans rfl
                      have hcz55_5 : wc.cell? ⟨gb132, 5, none⟩ = some (.int .i64 ((rd_T55 l0 x12_1).f5)) := (blk_cell BK132.out 5).trans rfl
                      have hcz55_6 : wc.cell? ⟨gb132, 6, none⟩ = some (.int .i64 ((rd_T55 l0 x12_1).f6)) := (blk_cell BK132.out 6).trans rfl
                      have hcz55_7 : wc.cell? ⟨gb132, 7, none⟩ = some (.int .i64 ((rd_T55 l0 x12_1).f7)) := (blk_cell BK132.out 7).trans rfl
                      have hcz55_8 : wc.cell? ⟨gb132, 8, none⟩ = some (.int .i64 ((rd_T55 l0 x12_1).f8)) := (blk_cell BK132.out 8).trans rfl
                      have hfz55_0 := blk_frozen BK132.out 0
                      have hfz55_1 := blk_frozen BK132.out 1
                      have hfz55_2 := blk_frozen BK132.out 2
                      have hfz55_3 := blk_frozen BK132.out 3
                      have hfz55_4 := blk_frozen BK132.out 4
                      have hfz55_5 := blk_frozen BK132.out 5
                      have hfz55_6 := blk_frozen BK132.out 6
                      have hfz55_7 := blk_frozen BK132.out 7
                      have hfz55_8 := blk_frozen BK132.out 8
                      go_wp2
                      go_ret
                      exact ⟨by first | rfl | (simp [errW_none, errW_some] <;> rfl) | (simp [*, errW_none, errW_some] <;> rfl), by repeat (first | (with_reducible first | exact HB.out | apply below_alloc | apply pw_below_drewN | apply below_drew1 | refine below_set ?_ GE130.out | refine below_set ?_ GE132.out) | exact HB.out)⟩
          · rw [if_neg c7] at H
            exact absurd H (by simp)
        · rw [if_neg c6] at H
          exact absurd H (by simp)
      · rw [if_neg c5] at H
        have c5b0 : decide (x12_1 < (l0.length : Int)) = false := decide_eq_false c5
        clear c5
        obtain rfl := Option.some.inj H
        go_wp2
        go_ret
        exact ⟨by first | rfl | (simp [errW_none, errW_some] <;> rfl) | (simp [*, errW_none, errW_some] <;> rfl), by repeat (first | (with_reducible first | exact HB.out | apply below_alloc | apply pw_below_drewN | apply below_drew1 | refine below_set ?_ GE130.out) | exact HB.out)⟩

/-! ### laws_FnExactWholeAsk: function 7 -/
def laws_FnExactWholeAsk.f (k : Nat) (l0 : List (S57)) (a1 : Int) : Option (Bool) := (laws_szNoteS.f l0 1048576).bind fun t134 => (if t134 < 0 then (some true) else ((laws_toNoteS.f k l0).bind fun t135 => ((spec_WholeAsk.f k t135 a1).bind fun t138 => ((laws_toNoteS.f k l0).bind fun t139 => ((impl_WholeAsk.f k t139 a1).bind fun t142 => (if (t142 != t138) = true then (some false) else ((laws_toNoteS.f k l0).bind fun t143 => ((laws_eqNoteS.f k t139 t143).bind fun t146 => (if t146 = true then (some true) else (some false))))))))))
theorem laws_FnExactWholeAsk.mono : ∀ a0 a1 k, LeO (laws_FnExactWholeAsk.f k a0 a1) (laws_FnExactWholeAsk.f (k + 1) a0 a1) := by
  intro a0 a1 k
  unfold laws_FnExactWholeAsk.f
  repeat' first
      | (with_reducible exact impl_WholeAsk.mono _ _ _)
      | (with_reducible exact laws_eqNoteS.mono _ _ _)
      | (with_reducible exact laws_toNoteS.mono _ _)
      | (with_reducible exact spec_WholeAsk.mono _ _ _)
      | (with_reducible exact LeO.refl _)
      | (with_reducible exact LeO.none _)
      | (with_reducible refine LeO.ite ?_ ?_)
      | (with_reducible refine LeO.bind ?_ (fun _ => ?_))
      | exact impl_WholeAsk.mono _ _ _
      | exact laws_eqNoteS.mono _ _ _
      | exact laws_toNoteS.mono _ _
      | exact spec_WholeAsk.mono _ _ _
      | exact LeO.none _
      | refine LeO.ite ?_ ?_
      | refine LeO.bind ?_ (fun _ => ?_)
set_option maxHeartbeats 8000000 in
set_option maxRecDepth 100000 in
theorem laws_FnExactWholeAsk.calls (k : Nat) (A0 : Option Addr) (c0 : Nat) (l0 : List (S57)) (a1 : Int) (r : Bool) (w : World) (hr0 : Kd.C k57 w A0 l0.length l0) (hc0 : l0.length ≤ c0) (h : laws_FnExactWholeAsk.f k l0 a1 = some r) :
    Calls Try.prog 7 #[.slice A0 l0.length c0, .int .i64 a1] w fun e w' => e = .returned (.bool r) ∧ Below w.heap.size w w' := by
  have HR0 := Aside0.mk hr0
  have HC0 := Aside0.mk hc0
  clear hr0 hc0
  have HB := Aside0.mk (Below.refl w.heap.size w)
  have H : ((laws_szNoteS.f l0 1048576).bind fun t134 => (if t134 < 0 then (some true) else ((laws_toNoteS.f k l0).bind fun t135 => ((spec_WholeAsk.f k t135 a1).bind fun t138 => ((laws_toNoteS.f k l0).bind fun t139 => ((impl_WholeAsk.f k t139 a1).bind fun t142 => (if (t142 != t138) = true then (some false) else ((laws_toNoteS.f k l0).bind fun t143 => ((laws_eqNoteS.f k t139 t143).bind fun t146 => (if t146 = true then (some true) else (some false))))))))))) = some r := h
  clear h
  replace H := Option.bind_eq_some_iff.mp H
  obtain ⟨t134, A30, H⟩ := H
  replace H : (if t134 < 0 then (some true) else ((laws_toNoteS.f k l0).bind fun t135 => ((spec_WholeAsk.f k t135 a1).bind fun t138 => ((laws_toNoteS.f k l0).bind fun t139 => ((impl_WholeAsk.f k t139 a1).bind fun t142 => (if (t142 != t138) = true then (some false) else ((laws_toNoteS.f k l0).bind fun t143 => ((laws_eqNoteS.f k t139 t143).bind fun t146 => (if t146 = true then (some true) else (some false)))))))))) = some r := H
  have A3 := Aside0.mk A30
  clear A30
  by_cases c4 : t134 < 0
  · rw [if_pos c4] at H
    have c4b0 : decide (t134 < 0) = true := decide_eq_true c4
    clear c4
    obtain rfl := Option.some.inj H
    go_enter Try.func7, Try.ntmps7
    go_wp2_with (first | ((with_reducible refine gate_callee (f := 16) rfl ?_); refine goesL_ (some 11) rfl rfl Try.func16 (by kernel_rfl) rfl #[.slice A0 l0.length c0, .int .i64 1048576] rfl (by (try simp only [List.map_toArray, List.map_cons, List.map_nil]); first | done | rfl | (simp only [List.length_drop, List.length_take]; rfl)) ?_; (with_reducible refine (laws_szNoteS.calls _ _ l0 1048576 t134 _ ?side1 ?side2 A3.out).mono ?_); (case side1 => repeat (first | exact HR0.out | (with_reducible refine Kd.C_alloc ?_ _) | (with_reducible refine Kd.C_drewN ?_ _) | (with_reducible refine Kd.C_drew ?_))); (case side2 => exact HC0.out); rintro e w' ⟨rfl, ⟨nd, rfl⟩⟩; refine ⟨_, rfl, ?_⟩))
    go_ret
    exact ⟨by first | rfl | (simp [errW_none, errW_some] <;> rfl) | (simp [*, errW_none, errW_some] <;> rfl), by repeat (first | (with_reducible first | exact HB.out | apply below_alloc | apply pw_below_drewN | apply below_drew1) | exact HB.out)⟩
  · rw [if_neg c4] at H
    have c4b0 : decide (t134 < 0) = false := decide_eq_false c4
    clear c4
    replace H := Option.bind_eq_some_iff.mp H
    obtain ⟨t135, A50, H⟩ := H
    replace H : ((spec_WholeAsk.f k t135 a1).bind fun t138 => ((laws_toNoteS.f k l0).bind fun t139 => ((impl_WholeAsk.f k t139 a1).bind fun t142 => (if (t142 != t138) = true then (some false) else ((laws_toNoteS.f k l0).bind fun t143 => ((laws_eqNoteS.f k t139 t143).bind fun t146 => (if t146 = true then (some true) else (some false)))))))) = some r := H
    have A5 := Aside0.mk A50
    clear A50
    replace H := Option.bind_eq_some_iff.mp H
    obtain ⟨t138, A60, H⟩ := H
    replace H : ((laws_toNoteS.f k l0).bind fun t139 => ((impl_WholeAsk.f k t139 a1).bind fun t142 => (if (t142 != t138) = true then (some false) else ((laws_toNoteS.f k l0).bind fun t143 => ((laws_eqNoteS.f k t139 t143).bind fun t146 => (if t146 = true then (some true) else (some false))))))) = some r := H
    have A6 := Aside0.mk A60
    clear A60
    replace H := Option.bind_eq_some_iff.mp H
    obtain ⟨t139, A70, H⟩ := H
    replace H : ((impl_WholeAsk.f k t139 a1).bind fun t142 => (if (t142 != t138) = true then (some false) else ((laws_toNoteS.f k l0).bind fun t143 => ((laws_eqNoteS.f k t139 t143).bind fun t146 => (if t146 = true then (some true) else (some false)))))) = some r := H
    have A7 := Aside0.mk A70
    clear A70
    replace H := Option.bind_eq_some_iff.mp H
    obtain ⟨t142, A80, H⟩ := H
    replace H : (if (t142 != t138) = true then (some false) else ((laws_toNoteS.f k l0).bind fun t143 => ((laws_eqNoteS.f k t139 t143).bind fun t146 => (if t146 = true then (some true) else (some false))))) = some r := H
    have A8 := Aside0.mk A80
    clear A80
    by_cases c9 : (t142 != t138) = true
    · rw [if_pos c9] at H
      have c9b0 : (t142 != t138) = true := c9
      (try (have c9b1 : decide (t142 = t138) = false := by simpa using c9))
      (try (have c9b2 : (t142 == t138) = false := by simpa using c9))
      (try (have c9b3 : ¬ (t142 = t138) := by simpa using c9))
      clear c9
      obtain rfl := Option.some.inj H
      go_enter Try.func7, Try.ntmps7
      go_wp2_with (first | ((with_reducible refine gate_callee (f := 16) rfl ?_); refine goesL_ (some 11) rfl rfl Try.func16 (by kernel_rfl) rfl #[.slice A0 l0.length c0, .int .i64 1048576] rfl (by (try simp only [List.map_toArray, List.map_cons, List.map_nil]); first | done | rfl | (simp only [List.length_drop, List.length_take]; rfl)) ?_; (with_reducible refine (laws_szNoteS.calls _ _ l0 1048576 t134 _ ?side1 ?side2 A3.out).mono ?_); (case side1 => repeat (first | exact HR0.out | (with_reducible refine Kd.C_alloc ?_ _) | (with_reducible refine Kd.C_drewN ?_ _) | (with_reducible refine Kd.C_drew ?_))); (case side2 => exact HC0.out); rintro e w' ⟨rfl, ⟨nd, rfl⟩⟩; refine ⟨_, rfl, ?_⟩) | ((with_reducible refine gate_callee (f := 18) rfl ?_); refine goesL_ (some 15) rfl rfl Try.func18 (by kernel_rfl) rfl #[.slice A0 l0.length c0] rfl (by (try simp only [List.map_toArray, List.map_cons, List.map_nil]); first | done | rfl | (simp only [List.length_drop, List.length_take]; rfl)) ?_; (with_reducible refine (laws_toNoteS.calls k _ _ l0 t135 _ ?side1 ?side2 A5.out).mono ?_); (case side1 => repeat (first | exact HR0.out | (with_reducible refine Kd.C_alloc ?_ _) | (with_reducible refine Kd.C_drewN ?_ _) | (with_reducible refine Kd.C_drew ?_))); (case side2 => exact HC0.out); rintro e w10 ⟨v136, rfl, ho0, hb⟩; refine ⟨_, rfl, ?_⟩; have n0_ := Aside0.mk (Kd.R_lower ho0 (below_size (by repeat (first | (with_reducible first | exact HB.out | apply below_alloc | apply pw_below_drewN | apply below_drew1) | exact HB.out)))); have n1_ := Aside0.mk (below_step (by repeat (first | (with_reducible first | exact HB.out | apply below_alloc | apply pw_below_drewN | apply below_drew1) | exact HB.out)) hb); clear HB; have HO137 := n0_; have HB := n1_; clear n0_ n1_; (try clear hb); (try clear hb2); (try clear hk); (try clear hi); (try clear ho0); obtain ⟨Ao11, co11, eo11⟩ := Kd.R_slice HO137.out; subst eo11) | ((with_reducible refine gate_callee (f := 23) rfl ?_); refine goesL_ (some 17) rfl rfl Try.func23 (by kernel_rfl) rfl #[.slice Ao11 t135.length co11, .int .i64 a1] rfl (by (try simp only [List.map_toArray, List.map_cons, List.map_nil]); first | done | rfl | (simp only [List.length_drop, List.length_take]; rfl)) ?_; (with_reducible refine (spec_WholeAsk.calls k _ _ t135 a1 t138 _ ?side1 ?side2 A6.out).mono ?_); (case side1 => repeat (first | exact (Kd.R_reads' HO137.out).2.2 | (with_reducible refine Kd.C_alloc ?_ _) | (with_reducible refine Kd.C_drewN ?_ _) | (with_reducible refine Kd.C_drew ?_))); (case side2 => exact (Kd.R_reads' HO137.out).2.1); rintro e w12 ⟨rfl, hb⟩; refine ⟨_, rfl, ?_⟩; have n0_ := Aside0.mk (Kd.R_below (by (with_reducible repeat (first | apply Kd.R_alloc | apply Kd.R_drewN | apply Kd.R_drew)); exact HO137.out) hb); have n1_ := Aside0.mk (below_step (by repeat (first | (with_reducible first | exact HB.out | apply below_alloc | apply pw_below_drewN | apply below_drew1) | exact HB.out)) hb); clear HO137; clear HB; have HO137 := n0_; have HB := n1_; clear n0_ n1_; (try clear hb); (try clear hb2); (try clear hk); (try clear hi)) | ((with_reducible refine gate_callee (f := 18) rfl ?_); refine goesL_ (some 19) rfl rfl Try.func18 (by kernel_rfl) rfl #[.slice A0 l0.length c0] rfl (by (try simp only [List.map_toArray, List.map_cons, List.map_nil]); first | done | rfl | (simp only [List.length_drop, List.length_take]; rfl)) ?_; (with_reducible refine (laws_toNoteS.calls k _ _ l0 t139 _ ?side1 ?side2 A7.out).mono ?_); (case side1 => repeat (first | exact (Kd.C_below HR0.out HB.out) | (with_reducible refine Kd.C_alloc ?_ _) | (with_reducible refine Kd.C_drewN ?_ _) | (with_reducible refine Kd.C_drew ?_))); (case side2 => exact HC0.out); rintro e w13 ⟨v140, rfl, ho0, hb⟩; refine ⟨_, rfl, ?_⟩; have n0_ := Aside0.mk (Kd.R_elder' (by (with_reducible repeat (first | apply Kd.R_alloc | apply Kd.R_drewN | apply Kd.R_drew)); exact HO137.out) (Kd.R_base ho0) hb); have n1_ := Aside0.mk (Kd.R_lower (Kd.R_new' ho0 (Kd.R_lt (by (with_reducible repeat (first | apply Kd.R_alloc | apply Kd.R_drewN | apply Kd.R_drew)); exact HO137.out))) (below_size (by repeat (first | (with_reducible first | exact HB.out | apply below_alloc | apply pw_below_drewN | apply below_drew1) | exact HB.out)))); have n2_ := Aside0.mk (below_step (by repeat (first | (with_reducible first | exact HB.out | apply below_alloc | apply pw_below_drewN | apply below_drew1) | exact HB.out)) hb); clear HO137; clear HB; have HO137 := n0_; have HO141 := n1_; have HB := n2_; clear n0_ n1_ n2_; (try clear hb); (try clear hb2); (try clear hk); (try clear hi); (try clear ho0); obtain ⟨Ao14, co14, eo14⟩ := Kd.R_slice HO141.out; subst eo14) | ((with_reducible refine gate_callee (f := 24) rfl ?_); refine goesL_ (some 22) rfl rfl Try.func24 (by kernel_rfl) rfl #[.slice Ao14 t139.length co14, .int .i64 a1] rfl (by (try simp only [List.map_toArray, List.map_cons, List.map_nil]); first | done | rfl | (simp only [List.length_drop, List.length_take]; rfl)) ?_; (with_reducible refine (impl_WholeAsk.calls k _ _ t139 a1 t142 _ ?side1 ?side2 A8.out).mono ?_); (case side1 => repeat (first | exact (Kd.R_reads' HO141.out).2.2 | (with_reducible refine Kd.C_alloc ?_ _) | (with_reducible refine Kd.C_drewN ?_ _) | (with_reducible refine Kd.C_drew ?_))); (case side2 => exact (Kd.R_reads' HO141.out).2.1); rintro e w15 ⟨rfl, hb⟩; refine ⟨_, rfl, ?_⟩; have n0_ := Aside0.mk (Kd.R_below (by (with_reducible repeat (first | apply Kd.R_alloc | apply Kd.R_drewN | apply Kd.R_drew)); exact HO137.out) hb); have n1_ := Aside0.mk (Kd.R_below (by (with_reducible repeat (first | apply Kd.R_alloc | apply Kd.R_drewN | apply Kd.R_drew)); exact HO141.out) hb); have n2_ := Aside0.mk (below_step (by repeat (first | (with_reducible first | exact HB.out | apply below_alloc | apply pw_below_drewN | apply below_drew1) | exact HB.out)) hb); clear HO137; clear HO141; clear HB; have HO137 := n0_; have HO141 := n1_; have HB := n2_; clear n0_ n1_ n2_; (try clear hb); (try clear hb2); (try clear hk); (try clear hi)))
      go_ret
      exact ⟨by first | rfl | (simp [errW_none, errW_some] <;> rfl) | (simp [*, errW_none, errW_some] <;> rfl), by repeat (first | (with_reducible first | exact HB.out | apply below_alloc | apply pw_below_drewN | apply below_drew1) | exact HB.out)⟩
    · rw [if_neg c9] at H
      have c9b0 : (t142 != t138) = false := by simpa using c9
      (try (have c9b1 : decide (t142 = t138) = true := by simpa using c9))
      (try (have c9b2 : (t142 == t138) = true := by simpa using c9))
      clear c9
      replace H := Option.bind_eq_some_iff.mp H
      obtain ⟨t143, A160, H⟩ := H
      replace H : ((laws_eqNoteS.f k t139 t143).bind fun t146 => (if t146 = true then (some true) else (some false))) = some r := H
      have A16 := Aside0.mk A160
      clear A160
      replace H := Option.bind_eq_some_iff.mp H
      obtain ⟨t146, A170, H⟩ := H
      replace H : (if t146 = true then (some true) else (some false)) = some r := H
      have A17 := Aside0.mk A170
      clear A170
      by_cases c18 : t146 = true
      · subst c18
        have H1 : (some true) = some r := by rw [if_pos rfl] at H; exact H
        clear H
        have H := H1
        clear H1
        obtain rfl := Option.some.inj H
        go_enter Try.func7, Try.ntmps7
        go_wp2_with (first | ((with_reducible refine gate_callee (f := 16) rfl ?_); refine goesL_ (some 11) rfl rfl Try.func16 (by kernel_rfl) rfl #[.slice A0 l0.length c0, .int .i64 1048576] rfl (by (try simp only [List.map_toArray, List.map_cons, List.map_nil]); first | done | rfl | (simp only [List.length_drop, List.length_take]; rfl)) ?_; (with_reducible refine (laws_szNoteS.calls _ _ l0 1048576 t134 _ ?side1 ?side2 A3.out).mono ?_); (case side1 => repeat (first | exact HR0.out | (with_reducible refine Kd.C_alloc ?_ _) | (with_reducible refine Kd.C_drewN ?_ _) | (with_reducible refine Kd.C_drew ?_))); (case side2 => exact HC0.out); rintro e w' ⟨rfl, ⟨nd, rfl⟩⟩; refine ⟨_, rfl, ?_⟩) | ((with_reducible refine gate_callee (f := 18) rfl ?_); refine goesL_ (some 15) rfl rfl Try.func18 (by kernel_rfl) rfl #[.slice A0 l0.length c0] rfl (by (try simp only [List.map_toArray, List.map_cons, List.map_nil]); first | done | rfl | (simp only [List.length_drop, List.length_take]; rfl)) ?_; (with_reducible refine (laws_toNoteS.calls k _ _ l0 t135 _ ?side1 ?side2 A5.out).mono ?_); (case side1 => repeat (first | exact HR0.out | (with_reducible refine Kd.C_alloc ?_ _) | (with_reducible refine Kd.C_drewN ?_ _) | (with_reducible refine Kd.C_drew ?_))); (case side2 => exact HC0.out); rintro e w19 ⟨v136, rfl, ho0, hb⟩; refine ⟨_, rfl, ?_⟩; have n0_ := Aside0.mk (Kd.R_lower ho0 (below_size (by repeat (first | (with_reducible first | exact HB.out | apply below_alloc | apply pw_below_drewN | apply below_drew1) | exact HB.out)))); have n1_ := Aside0.mk (below_step (by repeat (first | (with_reducible first | exact HB.out | apply below_alloc | apply pw_below_drewN | apply below_drew1) | exact HB.out)) hb); clear HB; have HO137 := n0_; have HB := n1_; clear n0_ n1_; (try clear hb); (try clear hb2); (try clear hk); (try clear hi); (try clear ho0); obtain ⟨Ao20, co20, eo20⟩ := Kd.R_slice HO137.out; subst eo20) | ((with_reducible refine gate_callee (f := 23) rfl ?_); refine goesL_ (some 17) rfl rfl Try.func23 (by kernel_rfl) rfl #[.slice Ao20 t135.length co20, .int .i64 a1] rfl (by (try simp only [List.map_toArray, List.map_cons, List.map_nil]); first | done | rfl | (simp only [List.length_drop, List.length_take]; rfl)) ?_; (with_reducible refine (spec_WholeAsk.calls k _ _ t135 a1 t138 _ ?side1 ?side2 A6.out).mono ?_); (case side1 => repeat (first | exact (Kd.R_reads' HO137.out).2.2 | (with_reducible refine Kd.C_alloc ?_ _) | (with_reducible refine Kd.C_drewN ?_ _) | (with_reducible refine Kd.C_drew ?_))); (case side2 => exact (Kd.R_reads' HO137.out).2.1); rintro e w21 ⟨rfl, hb⟩; refine ⟨_, rfl, ?_⟩; have n0_ := Aside0.mk (Kd.R_below (by (with_reducible repeat (first | apply Kd.R_alloc | apply Kd.R_drewN | apply Kd.R_drew)); exact HO137.out) hb); have n1_ := Aside0.mk (below_step (by repeat (first | (with_reducible first | exact HB.out | apply below_alloc | apply pw_below_drewN | apply below_drew1) | exact HB.out)) hb); clear HO137; clear HB; have HO137 := n0_; have HB := n1_; clear n0_ n1_; (try clear hb); (try clear hb2); (try clear hk); (try clear hi)) | ((with_reducible refine gate_callee (f := 18) rfl ?_); refine goesL_ (some 19) rfl rfl Try.func18 (by kernel_rfl) rfl #[.slice A0 l0.length c0] rfl (by (try simp only [List.map_toArray, List.map_cons, List.map_nil]); first | done | rfl | (simp only [List.length_drop, List.length_take]; rfl)) ?_; (with_reducible refine (laws_toNoteS.calls k _ _ l0 t139 _ ?side1 ?side2 A7.out).mono ?_); (case side1 => repeat (first | exact (Kd.C_below HR0.out HB.out) | (with_reducible refine Kd.C_alloc ?_ _) | (with_reducible refine Kd.C_drewN ?_ _) | (with_reducible refine Kd.C_drew ?_))); (case side2 => exact HC0.out); rintro e w22 ⟨v140, rfl, ho0, hb⟩; refine ⟨_, rfl, ?_⟩; have n0_ := Aside0.mk (Kd.R_elder' (by (with_reducible repeat (first | apply Kd.R_alloc | apply Kd.R_drewN | apply Kd.R_drew)); exact HO137.out) (Kd.R_base ho0) hb); have n1_ := Aside0.mk (Kd.R_lower (Kd.R_new' ho0 (Kd.R_lt (by (with_reducible repeat (first | apply Kd.R_alloc | apply Kd.R_drewN | apply Kd.R_drew)); exact HO137.out))) (below_size (by repeat (first | (with_reducible first | exact HB.out | apply below_alloc | apply pw_below_drewN | apply below_drew1) | exact HB.out)))); have n2_ := Aside0.mk (below_step (by repeat (first | (with_reducible first | exact HB.out | apply below_alloc | apply pw_below_drewN | apply below_drew1) | exact HB.out)) hb); clear HO137; clear HB; have HO137 := n0_; have HO141 := n1_; have HB := n2_; clear n0_ n1_ n2_; (try clear hb); (try clear hb2); (try clear hk); (try clear hi); (try clear ho0); obtain ⟨Ao23, co23, eo23⟩ := Kd.R_slice HO141.out; subst eo23) | ((with_reducible refine gate_callee (f := 24) rfl ?_); refine goesL_ (some 22) rfl rfl Try.func24 (by kernel_rfl) rfl #[.slice Ao23 t139.length co23, .int .i64 a1] rfl (by (try simp only [List.map_toArray, List.map_cons, List.map_nil]); first | done | rfl | (simp only [List.length_drop, List.length_take]; rfl)) ?_; (with_reducible refine (impl_WholeAsk.calls k _ _ t139 a1 t142 _ ?side1 ?side2 A8.out).mono ?_); (case side1 => repeat (first | exact (Kd.R_reads' HO141.out).2.2 | (with_reducible refine Kd.C_alloc ?_ _) | (with_reducible refine Kd.C_drewN ?_ _) | (with_reducible refine Kd.C_drew ?_))); (case side2 => exact (Kd.R_reads' HO141.out).2.1); rintro e w24 ⟨rfl, hb⟩; refine ⟨_, rfl, ?_⟩; have n0_ := Aside0.mk (Kd.R_below (by (with_reducible repeat (first | apply Kd.R_alloc | apply Kd.R_drewN | apply Kd.R_drew)); exact HO137.out) hb); have n1_ := Aside0.mk (Kd.R_below (by (with_reducible repeat (first | apply Kd.R_alloc | apply Kd.R_drewN | apply Kd.R_drew)); exact HO141.out) hb); have n2_ := Aside0.mk (below_step (by repeat (first | (with_reducible first | exact HB.out | apply below_alloc | apply pw_below_drewN | apply below_drew1) | exact HB.out)) hb); clear HO137; clear HO141; clear HB; have HO137 := n0_; have HO141 := n1_; have HB := n2_; clear n0_ n1_ n2_; (try clear hb); (try clear hb2); (try clear hk); (try clear hi)) | ((with_reducible refine gate_callee (f := 18) rfl ?_); refine goesL_ (some 28) rfl rfl Try.func18 (by kernel_rfl) rfl #[.slice A0 l0.length c0] rfl (by (try simp only [List.map_toArray, List.map_cons, List.map_nil]); first | done | rfl | (simp only [List.length_drop, List.length_take]; rfl)) ?_; (with_reducible refine (laws_toNoteS.calls k _ _ l0 t143 _ ?side1 ?side2 A16.out).mono ?_); (case side1 => repeat (first | exact (Kd.C_below HR0.out HB.out) | (with_reducible refine Kd.C_alloc ?_ _) | (with_reducible refine Kd.C_drewN ?_ _) | (with_reducible refine Kd.C_drew ?_))); (case side2 => exact HC0.out); rintro e w25 ⟨v144, rfl, ho0, hb⟩; refine ⟨_, rfl, ?_⟩; have n0_ := Aside0.mk (Kd.R_elder' (by (with_reducible repeat (first | apply Kd.R_alloc | apply Kd.R_drewN | apply Kd.R_drew)); exact HO137.out) (Kd.R_base ho0) hb); have n1_ := Aside0.mk (Kd.R_elder' (by (with_reducible repeat (first | apply Kd.R_alloc | apply Kd.R_drewN | apply Kd.R_drew)); exact HO141.out) (Kd.R_base ho0) hb); have n2_ := Aside0.mk (Kd.R_lower (Kd.R_new' (Kd.R_new' ho0 (Kd.R_lt (by (with_reducible repeat (first | apply Kd.R_alloc | apply Kd.R_drewN | apply Kd.R_drew)); exact HO137.out))) (Kd.R_lt (by (with_reducible repeat (first | apply Kd.R_alloc | apply Kd.R_drewN | apply Kd.R_drew)); exact HO141.out))) (below_size (by repeat (first | (with_reducible first | exact HB.out | apply below_alloc | apply pw_below_drewN | apply below_drew1) | exact HB.out)))); have n3_ := Aside0.mk (below_step (by repeat (first | (with_reducible first | exact HB.out | apply below_alloc | apply pw_below_drewN | apply below_drew1) | exact HB.out)) hb); clear HO137; clear HO141; clear HB; have HO137 := n0_; have HO141 := n1_; have HO145 := n2_; have HB := n3_; clear n0_ n1_ n2_ n3_; (try clear hb); (try clear hb2); (try clear hk); (try clear hi); (try clear ho0); obtain ⟨Ao26, co26, eo26⟩ := Kd.R_slice HO145.out; subst eo26) | ((with_reducible refine gate_callee (f := 20) rfl ?_); refine goesL_ (some 29) rfl rfl Try.func20 (by kernel_rfl) rfl #[.slice Ao23 t139.length co23, .slice Ao26 t143.length co26] rfl (by (try simp only [List.map_toArray, List.map_cons, List.map_nil]); first | done | rfl | (simp only [List.length_drop, List.length_take]; rfl)) ?_; (with_reducible refine (laws_eqNoteS.calls k _ _ t139 _ _ t143 true _ ?side1 ?side2 ?side3 ?side4 A17.out).mono ?_); (case side1 => repeat (first | exact (Kd.R_reads' HO141.out).2.2 | (with_reducible refine Kd.C_alloc ?_ _) | (with_reducible refine Kd.C_drewN ?_ _) | (with_reducible refine Kd.C_drew ?_))); (case side2 => exact (Kd.R_reads' HO141.out).2.1); (case side3 => repeat (first | exact (Kd.R_reads' HO145.out).2.2 | (with_reducible refine Kd.C_alloc ?_ _) | (with_reducible refine Kd.C_drewN ?_ _) | (with_reducible refine Kd.C_drew ?_))); (case side4 => exact (Kd.R_reads' HO145.out).2.1); rintro e w27 ⟨rfl, hb⟩; refine ⟨_, rfl, ?_⟩; have n0_ := Aside0.mk (Kd.R_below (by (with_reducible repeat (first | apply Kd.R_alloc | apply Kd.R_drewN | apply Kd.R_drew)); exact HO137.out) hb); have n1_ := Aside0.mk (Kd.R_below (by (with_reducible repeat (first | apply Kd.R_alloc | apply Kd.R_drewN | apply Kd.R_drew)); exact HO141.out) hb); have n2_ := Aside0.mk (Kd.R_below (by (with_reducible repeat (first | apply Kd.R_alloc | apply Kd.R_drewN | apply Kd.R_drew)); exact HO145.out) hb); have n3_ := Aside0.mk (below_step (by repeat (first | (with_reducible first | exact HB.out | apply below_alloc | apply pw_below_drewN | apply below_drew1) | exact HB.out)) hb); clear HO137; clear HO141; clear HO145; clear HB; have HO137 := n0_; have HO141 := n1_; have HO145 := n2_; have HB := n3_; clear n0_ n1_ n2_ n3_; (try clear hb); (try clear hb2); (try clear hk); (try clear hi)))
        go_ret
        exact ⟨by first | rfl | (simp [errW_none, errW_some] <;> rfl) | (simp [*, errW_none, errW_some] <;> rfl), by repeat (first | (with_reducible first | exact HB.out | apply below_alloc | apply pw_below_drewN | apply below_drew1) | exact HB.out)⟩
      · replace c18 := Bool.eq_false_iff.mpr c18
        subst c18
        have H1 : (some false) = some r := by rw [if_neg (show ¬ (false = true) by decide)] at H; exact H
        clear H
        have H := H1
        clear H1
        obtain rfl := Option.some.inj H
        go_enter Try.func7, Try.ntmps7
        go_wp2_with (first | ((with_reducible refine gate_callee (f := 16) rfl ?_); refine goesL_ (some 11) rfl rfl Try.func16 (by kernel_rfl) rfl #[.slice A0 l0.length c0, .int .i64 1048576] rfl (by (try simp only [List.map_toArray, List.map_cons, List.map_nil]); first | done | rfl | (simp only [List.length_drop, List.length_take]; rfl)) ?_; (with_reducible refine (laws_szNoteS.calls _ _ l0 1048576 t134 _ ?side1 ?side2 A3.out).mono ?_); (case side1 => repeat (first | exact HR0.out | (with_reducible refine Kd.C_alloc ?_ _) | (with_reducible refine Kd.C_drewN ?_ _) | (with_reducible refine Kd.C_drew ?_))); (case side2 => exact HC0.out); rintro e w' ⟨rfl, ⟨nd, rfl⟩⟩; refine ⟨_, rfl, ?_⟩) | ((with_reducible refine gate_callee (f := 18) rfl ?_); refine goesL_ (some 15) rfl rfl Try.func18 (by kernel_rfl) rfl #[.slice A0 l0.length c0] rfl (by (try simp only [List.map_toArray, List.map_cons, List.map_nil]); first | done | rfl | (simp only [List.length_drop, List.length_take]; rfl)) ?_; (with_reducible refine (laws_toNoteS.calls k _ _ l0 t135 _ ?side1 ?side2 A5.out).mono ?_); (case side1 => repeat (first | exact HR0.out | (with_reducible refine Kd.C_alloc ?_ _) | (with_reducible refine Kd.C_drewN ?_ _) | (with_reducible refine Kd.C_drew ?_))); (case side2 => exact HC0.out); rintro e w28 ⟨v136, rfl, ho0, hb⟩; refine ⟨_, rfl, ?_⟩; have n0_ := Aside0.mk (Kd.R_lower ho0 (below_size (by repeat (first | (with_reducible first | exact HB.out | apply below_alloc | apply pw_below_drewN | apply below_drew1) | exact HB.out)))); have n1_ := Aside0.mk (below_step (by repeat (first | (with_reducible first | exact HB.out | apply below_alloc | apply pw_below_drewN | apply below_drew1) | exact HB.out)) hb); clear HB; have HO137 := n0_; have HB := n1_; clear n0_ n1_; (try clear hb); (try clear hb2); (try clear hk); (try clear hi); (try clear ho0); obtain ⟨Ao29, co29, eo29⟩ := Kd.R_slice HO137.out; subst eo29) | ((with_reducible refine gate_callee (f := 23) rfl ?_); refine goesL_ (some 17) rfl rfl Try.func23 (by kernel_rfl) rfl #[.slice Ao29 t135.length co29, .int .i64 a1] rfl (by (try simp only [List.map_toArray, List.map_cons, List.map_nil]); first | done | rfl | (simp only [List.length_drop, List.length_take]; rfl)) ?_; (with_reducible refine (spec_WholeAsk.calls k _ _ t135 a1 t138 _ ?side1 ?side2 A6.out).mono ?_); (case side1 => repeat (first | exact (Kd.R_reads' HO137.out).2.2 | (with_reducible refine Kd.C_alloc ?_ _) | (with_reducible refine Kd.C_drewN ?_ _) | (with_reducible refine Kd.C_drew ?_))); (case side2 => exact (Kd.R_reads' HO137.out).2.1); rintro e w30 ⟨rfl, hb⟩; refine ⟨_, rfl, ?_⟩; have n0_ := Aside0.mk (Kd.R_below (by (with_reducible repeat (first | apply Kd.R_alloc | apply Kd.R_drewN | apply Kd.R_drew)); exact HO137.out) hb); have n1_ := Aside0.mk (below_step (by repeat (first | (with_reducible first | exact HB.out | apply below_alloc | apply pw_below_drewN | apply below_drew1) | exact HB.out)) hb); clear HO137; clear HB; have HO137 := n0_; have HB := n1_; clear n0_ n1_; (try clear hb); (try clear hb2); (try clear hk); (try clear hi)) | ((with_reducible refine gate_callee (f := 18) rfl ?_); refine goesL_ (some 19) rfl rfl Try.func18 (by kernel_rfl) rfl #[.slice A0 l0.length c0] rfl (by (try simp only [List.map_toArray, List.map_cons, List.map_nil]); first | done | rfl | (simp only [List.length_drop, List.length_take]; rfl)) ?_; (with_reducible refine (laws_toNoteS.calls k _ _ l0 t139 _ ?side1 ?side2 A7.out).mono ?_); (case side1 => repeat (first | exact (Kd.C_below HR0.out HB.out) | (with_reducible refine Kd.C_alloc ?_ _) | (with_reducible refine Kd.C_drewN ?_ _) | (with_reducible refine Kd.C_drew ?_))); (case side2 => exact HC0.out); rintro e w31 ⟨v140, rfl, ho0, hb⟩; refine ⟨_, rfl, ?_⟩; have n0_ := Aside0.mk (Kd.R_elder' (by (with_reducible repeat (first | apply Kd.R_alloc | apply Kd.R_drewN | apply Kd.R_drew)); exact HO137.out) (Kd.R_base ho0) hb); have n1_ := Aside0.mk (Kd.R_lower (Kd.R_new' ho0 (Kd.R_lt (by (with_reducible repeat (first | apply Kd.R_alloc | apply Kd.R_drewN | apply Kd.R_drew)); exact HO137.out))) (below_size (by repeat (first | (with_reducible first | exact HB.out | apply below_alloc | apply pw_below_drewN | apply below_drew1) | exact HB.out)))); have n2_ := Aside0.mk (below_step (by repeat (first | (with_reducible first | exact HB.out | apply below_alloc | apply pw_below_drewN | apply below_drew1) | exact HB.out)) hb); clear HO137; clear HB; have HO137 := n0_; have HO141 := n1_; have HB := n2_; clear n0_ n1_ n2_; (try clear hb); (try clear hb2); (try clear hk); (try clear hi); (try clear ho0); obtain ⟨Ao32, co32, eo32⟩ := Kd.R_slice HO141.out; subst eo32) | ((with_reducible refine gate_callee (f := 24) rfl ?_); refine goesL_ (some 22) rfl rfl Try.func24 (by kernel_rfl) rfl #[.slice Ao32 t139.length co32, .int .i64 a1] rfl (by (try simp only [List.map_toArray, List.map_cons, List.map_nil]); first | done | rfl | (simp only [List.length_drop, List.length_take]; rfl)) ?_; (with_reducible refine (impl_WholeAsk.calls k _ _ t139 a1 t142 _ ?side1 ?side2 A8.out).mono ?_); (case side1 => repeat (first | exact (Kd.R_reads' HO141.out).2.2 | (with_reducible refine Kd.C_alloc ?_ _) | (with_reducible refine Kd.C_drewN ?_ _) | (with_reducible refine Kd.C_drew ?_))); (case side2 => exact (Kd.R_reads' HO141.out).2.1); rintro e w33 ⟨rfl, hb⟩; refine ⟨_, rfl, ?_⟩; have n0_ := Aside0.mk (Kd.R_below (by (with_reducible repeat (first | apply Kd.R_alloc | apply Kd.R_drewN | apply Kd.R_drew)); exact HO137.out) hb); have n1_ := Aside0.mk (Kd.R_below (by (with_reducible repeat (first | apply Kd.R_alloc | apply Kd.R_drewN | apply Kd.R_drew)); exact HO141.out) hb); have n2_ := Aside0.mk (below_step (by repeat (first | (with_reducible first | exact HB.out | apply below_alloc | apply pw_below_drewN | apply below_drew1) | exact HB.out)) hb); clear HO137; clear HO141; clear HB; have HO137 := n0_; have HO141 := n1_; have HB := n2_; clear n0_ n1_ n2_; (try clear hb); (try clear hb2); (try clear hk); (try clear hi)) | ((with_reducible refine gate_callee (f := 18) rfl ?_); refine goesL_ (some 28) rfl rfl Try.func18 (by kernel_rfl) rfl #[.slice A0 l0.length c0] rfl (by (try simp only [List.map_toArray, List.map_cons, List.map_nil]); first | done | rfl | (simp only [List.length_drop, List.length_take]; rfl)) ?_; (with_reducible refine (laws_toNoteS.calls k _ _ l0 t143 _ ?side1 ?side2 A16.out).mono ?_); (case side1 => repeat (first | exact (Kd.C_below HR0.out HB.out) | (with_reducible refine Kd.C_alloc ?_ _) | (with_reducible refine Kd.C_drewN ?_ _) | (with_reducible refine Kd.C_drew ?_))); (case side2 => exact HC0.out); rintro e w34 ⟨v144, rfl, ho0, hb⟩; refine ⟨_, rfl, ?_⟩; have n0_ := Aside0.mk (Kd.R_elder' (by (with_reducible repeat (first | apply Kd.R_alloc | apply Kd.R_drewN | apply Kd.R_drew)); exact HO137.out) (Kd.R_base ho0) hb); have n1_ := Aside0.mk (Kd.R_elder' (by (with_reducible repeat (first | apply Kd.R_alloc | apply Kd.R_drewN | apply Kd.R_drew)); exact HO141.out) (Kd.R_base ho0) hb); have n2_ := Aside0.mk (Kd.R_lower (Kd.R_new' (Kd.R_new' ho0 (Kd.R_lt (by (with_reducible repeat (first | apply Kd.R_alloc | apply Kd.R_drewN | apply Kd.R_drew)); exact HO137.out))) (Kd.R_lt (by (with_reducible repeat (first | apply Kd.R_alloc | apply Kd.R_drewN | apply Kd.R_drew)); exact HO141.out))) (below_size (by repeat (first | (with_reducible first | exact HB.out | apply below_alloc | apply pw_below_drewN | apply below_drew1) | exact HB.out)))); have n3_ := Aside0.mk (below_step (by repeat (first | (with_reducible first | exact HB.out | apply below_alloc | apply pw_below_drewN | apply below_drew1) | exact HB.out)) hb); clear HO137; clear HO141; clear HB; have HO137 := n0_; have HO141 := n1_; have HO145 := n2_; have HB := n3_; clear n0_ n1_ n2_ n3_; (try clear hb); (try clear hb2); (try clear hk); (try clear hi); (try clear ho0); obtain ⟨Ao35, co35, eo35⟩ := Kd.R_slice HO145.out; subst eo35) | ((with_reducible refine gate_callee (f := 20) rfl ?_); refine goesL_ (some 29) rfl rfl Try.func20 (by kernel_rfl) rfl #[.slice Ao32 t139.length co32, .slice Ao35 t143.length co35] rfl (by (try simp only [List.map_toArray, List.map_cons, List.map_nil]); first | done | rfl | (simp only [List.length_drop, List.length_take]; rfl)) ?_; (with_reducible refine (laws_eqNoteS.calls k _ _ t139 _ _ t143 false _ ?side1 ?side2 ?side3 ?side4 A17.out).mono ?_); (case side1 => repeat (first | exact (Kd.R_reads' HO141.out).2.2 | (with_reducible refine Kd.C_alloc ?_ _) | (with_reducible refine Kd.C_drewN ?_ _) | (with_reducible refine Kd.C_drew ?_))); (case side2 => exact (Kd.R_reads' HO141.out).2.1); (case side3 => repeat (first | exact (Kd.R_reads' HO145.out).2.2 | (with_reducible refine Kd.C_alloc ?_ _) | (with_reducible refine Kd.C_drewN ?_ _) | (with_reducible refine Kd.C_drew ?_))); (case side4 => exact (Kd.R_reads' HO145.out).2.1); rintro e w36 ⟨rfl, hb⟩; refine ⟨_, rfl, ?_⟩; have n0_ := Aside0.mk (Kd.R_below (by (with_reducible repeat (first | apply Kd.R_alloc | apply Kd.R_drewN | apply Kd.R_drew)); exact HO137.out) hb); have n1_ := Aside0.mk (Kd.R_below (by (with_reducible repeat (first | apply Kd.R_alloc | apply Kd.R_drewN | apply Kd.R_drew)); exact HO141.out) hb); have n2_ := Aside0.mk (Kd.R_below (by (with_reducible repeat (first | apply Kd.R_alloc | apply Kd.R_drewN | apply Kd.R_drew)); exact HO145.out) hb); have n3_ := Aside0.mk (below_step (by repeat (first | (with_reducible first | exact HB.out | apply below_alloc | apply pw_below_drewN | apply below_drew1) | exact HB.out)) hb); clear HO137; clear HO141; clear HO145; clear HB; have HO137 := n0_; have HO141 := n1_; have HO145 := n2_; have HB := n3_; clear n0_ n1_ n2_ n3_; (try clear hb); (try clear hb2); (try clear hk); (try clear hi)))
        go_ret
        exact ⟨by first | rfl | (simp [errW_none, errW_some] <;> rfl) | (simp [*, errW_none, errW_some] <;> rfl), by repeat (first | (with_reducible first | exact HB.out | apply below_alloc | apply pw_below_drewN | apply below_drew1) | exact HB.out)⟩

end Go.Proofs.Ytjeadgnoladnjaa.PFnExactWholeAsk
