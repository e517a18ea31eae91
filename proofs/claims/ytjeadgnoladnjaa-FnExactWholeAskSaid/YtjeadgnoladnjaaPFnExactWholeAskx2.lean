-- PRINTED BY print.sh 35421559b90ae4d0a3588c463048766b98c2df88dd9212a6774a882060cdf62d: not written by this session
import Derived.Test.YtjeadgnoladnjaaPFnExactWholeAskx0
import Derived.Test.YtjeadgnoladnjaaPFnExactWholeAskx1
namespace Go.Proofs.Ytjeadgnoladnjaa.PFnExactWholeAsk
open Go.RowKit Go.Proofs.YtjeadgnoladnjaaW.PrintWords Go.Proofs.YtjeadgnoladnjaaW.PrintLast Go.Proofs.YtjeadgnoladnjaaW.PrintMore
attribute [local go_sem] max2_int min2_int max_two min_two max_three min_three max_four min_four   -- for this text's walks alone
set_option linter.unusedVariables false
set_option linter.unusedSimpArgs false

/-! ### spec_WholeAsk: function 23 -/
mutual
def spec_WholeAsk.l0 : Nat → List (S55) → Int → Int → Int → Bool → Int → Option (Bool)
  | 0, _, _, _, _, _, _ => none
  | k + 1, x0, x1, x5, x6, x7, x8 => if x8 < (x0.length : Int) then (if 0 ≤ x8 then (if ((rd_T55 x0 x8).f5) = x1 then ((spec_l19Lent.f ((rd_T55 x0 x8).f0) ((rd_T55 x0 x8).f1) ((rd_T55 x0 x8).f2) ((rd_T55 x0 x8).f3) ((rd_T55 x0 x8).f4) ((rd_T55 x0 x8).f5) ((rd_T55 x0 x8).f6) ((rd_T55 x0 x8).f7) ((rd_T55 x0 x8).f8)).bind fun t127 => (spec_WholeAsk.j1 k x0 x1 x5 x6 x7 x8 (!t127) ((rd_T55 x0 x8).f0) ((rd_T55 x0 x8).f1) ((rd_T55 x0 x8).f2) ((rd_T55 x0 x8).f3) ((rd_T55 x0 x8).f4) ((rd_T55 x0 x8).f5) ((rd_T55 x0 x8).f6) ((rd_T55 x0 x8).f7) ((rd_T55 x0 x8).f8))) else (spec_WholeAsk.j1 k x0 x1 x5 x6 x7 x8 true ((rd_T55 x0 x8).f0) ((rd_T55 x0 x8).f1) ((rd_T55 x0 x8).f2) ((rd_T55 x0 x8).f3) ((rd_T55 x0 x8).f4) ((rd_T55 x0 x8).f5) ((rd_T55 x0 x8).f6) ((rd_T55 x0 x8).f7) ((rd_T55 x0 x8).f8))) else (none)) else (some true)
def spec_WholeAsk.j1 : Nat → List (S55) → Int → Int → Int → Bool → Int → Bool → Int → Int → Int → Int → Int → Int → Int → Int → Int → Option (Bool)
  | 0, _, _, _, _, _, _, _, _, _, _, _, _, _, _, _, _ => none
  | k + 1, x0, x1, x5, x6, x7, x8, x28, x127000, x127001, x127002, x127003, x127004, x127005, x127006, x127007, x127008 => if x28 = true then (spec_WholeAsk.l0 k x0 x1 x5 x6 x7 (wrap64 (x8 + 1))) else (if x127000 = 1 then (if x7 = true then (some false) else (spec_WholeAsk.l0 k x0 x1 x127006 x127007 true (wrap64 (x8 + 1)))) else (if x7 = true then (if x127006 = x5 then (spec_WholeAsk.j2 k x0 x1 x5 x6 x7 x8 (x127007 != x6) x127000 x127001 x127002 x127003 x127004 x127005 x127006 x127007 x127008) else (spec_WholeAsk.j2 k x0 x1 x5 x6 x7 x8 true x127000 x127001 x127002 x127003 x127004 x127005 x127006 x127007 x127008)) else (spec_WholeAsk.j2 k x0 x1 x5 x6 x7 x8 true x127000 x127001 x127002 x127003 x127004 x127005 x127006 x127007 x127008)))
def spec_WholeAsk.j2 : Nat → List (S55) → Int → Int → Int → Bool → Int → Bool → Int → Int → Int → Int → Int → Int → Int → Int → Int → Option (Bool)
  | 0, _, _, _, _, _, _, _, _, _, _, _, _, _, _, _, _ => none
  | k + 1, x0, x1, x5, x6, x7, x8, x50, x127000, x127001, x127002, x127003, x127004, x127005, x127006, x127007, x127008 => if x50 = true then (some false) else (if x127000 = 4 then (spec_WholeAsk.l0 k x0 x1 x5 x6 false (wrap64 (x8 + 1))) else (if x127000 = 5 then (spec_WholeAsk.l0 k x0 x1 x5 x6 false (wrap64 (x8 + 1))) else (spec_WholeAsk.l0 k x0 x1 x5 x6 x7 (wrap64 (x8 + 1)))))
end
def spec_WholeAsk.f (k : Nat) (l0 : List (S55)) (a1 : Int) : Option (Bool) := spec_WholeAsk.l0 k l0 a1 0 0 false 0
theorem spec_WholeAsk.mono_l : ∀ k, (∀ y0 y1 y2 y3 y4 y5, LeO (spec_WholeAsk.l0 k y0 y1 y2 y3 y4 y5) (spec_WholeAsk.l0 (k + 1) y0 y1 y2 y3 y4 y5)) ∧ (∀ y0 y1 y2 y3 y4 y5 y6 y7 y8 y9 y10 y11 y12 y13 y14 y15, LeO (spec_WholeAsk.j1 k y0 y1 y2 y3 y4 y5 y6 y7 y8 y9 y10 y11 y12 y13 y14 y15) (spec_WholeAsk.j1 (k + 1) y0 y1 y2 y3 y4 y5 y6 y7 y8 y9 y10 y11 y12 y13 y14 y15)) ∧ (∀ y0 y1 y2 y3 y4 y5 y6 y7 y8 y9 y10 y11 y12 y13 y14 y15, LeO (spec_WholeAsk.j2 k y0 y1 y2 y3 y4 y5 y6 y7 y8 y9 y10 y11 y12 y13 y14 y15) (spec_WholeAsk.j2 (k + 1) y0 y1 y2 y3 y4 y5 y6 y7 y8 y9 y10 y11 y12 y13 y14 y15))
  | 0 => ⟨fun _ _ _ _ _ _ r h => by simp [spec_WholeAsk.l0] at h, fun _ _ _ _ _ _ _ _ _ _ _ _ _ _ _ _ r h => by simp [spec_WholeAsk.j1] at h, fun _ _ _ _ _ _ _ _ _ _ _ _ _ _ _ _ r h => by simp [spec_WholeAsk.j2] at h⟩
  | k + 1 => by
    obtain ⟨ih0, ih1, ih2⟩ := spec_WholeAsk.mono_l k
    refine ⟨?_, ?_, ?_⟩
    · intro y0 y1 y2 y3 y4 y5
      unfold spec_WholeAsk.l0
      repeat' first
      | (with_reducible exact ih0 _ _ _ _ _ _)
      | (with_reducible exact ih1 _ _ _ _ _ _ _ _ _ _ _ _ _ _ _ _)
      | (with_reducible exact ih2 _ _ _ _ _ _ _ _ _ _ _ _ _ _ _ _)
      | (with_reducible exact LeO.refl _)
      | (with_reducible exact LeO.none _)
      | (with_reducible refine LeO.ite ?_ ?_)
      | (with_reducible refine LeO.bind ?_ (fun _ => ?_))
      | exact ih0 _ _ _ _ _ _
      | exact ih1 _ _ _ _ _ _ _ _ _ _ _ _ _ _ _ _
      | exact ih2 _ _ _ _ _ _ _ _ _ _ _ _ _ _ _ _
      | exact LeO.none _
      | refine LeO.ite ?_ ?_
      | refine LeO.bind ?_ (fun _ => ?_)
    · intro y0 y1 y2 y3 y4 y5 y6 y7 y8 y9 y10 y11 y12 y13 y14 y15
      unfold spec_WholeAsk.j1
      repeat' first
      | (with_reducible exact ih0 _ _ _ _ _ _)
      | (with_reducible exact ih1 _ _ _ _ _ _ _ _ _ _ _ _ _ _ _ _)
      | (with_reducible exact ih2 _ _ _ _ _ _ _ _ _ _ _ _ _ _ _ _)
      | (with_reducible exact LeO.refl _)
      | (with_reducible exact LeO.none _)
      | (with_reducible refine LeO.ite ?_ ?_)
      | (with_reducible refine LeO.bind ?_ (fun _ => ?_))
      | exact ih0 _ _ _ _ _ _
      | exact ih1 _ _ _ _ _ _ _ _ _ _ _ _ _ _ _ _
      | exact ih2 _ _ _ _ _ _ _ _ _ _ _ _ _ _ _ _
      | exact LeO.none _
      | refine LeO.ite ?_ ?_
      | refine LeO.bind ?_ (fun _ => ?_)
    · intro y0 y1 y2 y3 y4 y5 y6 y7 y8 y9 y10 y11 y12 y13 y14 y15
      unfold spec_WholeAsk.j2
      repeat' first
      | (with_reducible exact ih0 _ _ _ _ _ _)
      | (with_reducible exact ih1 _ _ _ _ _ _ _ _ _ _ _ _ _ _ _ _)
      | (with_reducible exact ih2 _ _ _ _ _ _ _ _ _ _ _ _ _ _ _ _)
      | (with_reducible exact LeO.refl _)
      | (with_reducible exact LeO.none _)
      | (with_reducible refine LeO.ite ?_ ?_)
      | (with_reducible refine LeO.bind ?_ (fun _ => ?_))
      | exact ih0 _ _ _ _ _ _
      | exact ih1 _ _ _ _ _ _ _ _ _ _ _ _ _ _ _ _
      | exact ih2 _ _ _ _ _ _ _ _ _ _ _ _ _ _ _ _
      | exact LeO.none _
      | refine LeO.ite ?_ ?_
      | refine LeO.bind ?_ (fun _ => ?_)
theorem spec_WholeAsk.mono : ∀ a0 a1 k, LeO (spec_WholeAsk.f k a0 a1) (spec_WholeAsk.f (k + 1) a0 a1) := by
  intro a0 a1 k
  obtain ⟨ih0, ih1, ih2⟩ := spec_WholeAsk.mono_l k
  unfold spec_WholeAsk.f
  repeat' first
      | (with_reducible exact ih0 _ _ _ _ _ _)
      | (with_reducible exact ih1 _ _ _ _ _ _ _ _ _ _ _ _ _ _ _ _)
      | (with_reducible exact ih2 _ _ _ _ _ _ _ _ _ _ _ _ _ _ _ _)
      | (with_reducible exact LeO.refl _)
      | (with_reducible exact LeO.none _)
      | (with_reducible refine LeO.ite ?_ ?_)
      | (with_reducible refine LeO.bind ?_ (fun _ => ?_))
      | exact ih0 _ _ _ _ _ _
      | exact ih1 _ _ _ _ _ _ _ _ _ _ _ _ _ _ _ _
      | exact ih2 _ _ _ _ _ _ _ _ _ _ _ _ _ _ _ _
      | exact LeO.none _
      | refine LeO.ite ?_ ?_
      | refine LeO.bind ?_ (fun _ => ?_)
set_option maxHeartbeats 8000000 in
set_option maxRecDepth 100000 in
theorem spec_WholeAsk.calls (k : Nat) (A0 : Option Addr) (c0 : Nat) (l0 : List (S55)) (a1 : Int) (r : Bool) (w : World) (hr0 : Kd.C k55 w A0 l0.length l0) (hc0 : l0.length ≤ c0) (h : spec_WholeAsk.f k l0 a1 = some r) :
    Calls Try.prog 23 #[.slice A0 l0.length c0, .int .i64 a1] w fun e w' => e = .returned (.bool r) ∧ Below w.heap.size w w' := by
  have hu55 := Try.underlying55
  have HR0 := Aside0.mk hr0
  have HC0 := Aside0.mk hc0
  clear hr0 hc0
  have HB := Aside0.mk (Below.refl w.heap.size w)
  have H : (spec_WholeAsk.l0 k l0 a1 0 0 false 0) = some r := h
  clear h
  have H' := Aside0.mk H
  clear H
  go_enter Try.func23, Try.ntmps23
  go_wp2
  go_loopg [5, 6, 7, 8] k (fun kq v5 v6 v7 v8 w' => ∃ (x5_1 : Int) (x6_1 : Int) (x7_1 : Bool) (x8_1 : Int), v5 = .int .i64 x5_1 ∧ v6 = .int .i64 x6_1 ∧ v7 = .bool x7_1 ∧ v8 = .int .i64 x8_1 ∧ Aside0 (spec_WholeAsk.l0 kq l0 a1 x5_1 x6_1 x7_1 x8_1 = some r) ∧ Aside0 (kq ≤ k) ∧ Aside0 (Below w.heap.size w w'))
  case atStart => exact ⟨(0), (0), (false), (0), (by first | rfl | (simp; done) | (simp [*]; done)), (by first | rfl | (simp; done) | (simp [*]; done)), (by first | rfl | (simp; done) | (simp [*]; done)), (by first | rfl | (simp; done) | (simp [*]; done)), H', ⟨Nat.le_refl _⟩, ⟨by repeat (first | (with_reducible first | exact HB.out | apply below_alloc | apply pw_below_drewN | apply below_drew1) | exact HB.out)⟩⟩
  case round =>
    clear H'
    try clear c2
    try clear p2
    obtain ⟨x5_1, x6_1, x7_1, x8_1, rfl, rfl, rfl, rfl, HA, HK1, HB⟩ := hrel
    cases gk with
    | zero => exact absurd HA.out (by simp [spec_WholeAsk.l0])
    | succ k1 =>
      have H := HA.out
      clear HA
      simp only [spec_WholeAsk.l0] at H
      by_cases c3 : x8_1 < (l0.length : Int)
      · rw [if_pos c3] at H
        have c3b0 : decide (x8_1 < (l0.length : Int)) = true := decide_eq_true c3
        clear c3
        by_cases c4 : 0 ≤ x8_1
        · rw [if_pos c4] at H
          have c4b0 : decide (0 ≤ x8_1) = true := decide_eq_true c4
          clear c4
          have HC5 := Aside0.mk H
          clear H
          have p125 : 0 ≤ (x8_1 : Int) := of_decide_eq_true (by first | (with_reducible assumption) | assumption)
          have q125 : x8_1 < (l0.length : Int) := of_decide_eq_true (by first | (with_reducible assumption) | assumption)
          obtain ⟨ad125, e125, hx125_0, hx125_1, hx125_2, hx125_3, hx125_4, hx125_5, hx125_6, hx125_7, hx125_8⟩ := at_T55 HR0.out x8_1 p125 q125
          cases e125
          replace hx125_0 := (HB.out.cell (World.block_lt_of_cell? w _ hx125_0)).trans hx125_0
          replace hx125_1 := (HB.out.cell (World.block_lt_of_cell? w _ hx125_1)).trans hx125_1
          replace hx125_2 := (HB.out.cell (World.block_lt_of_cell? w _ hx125_2)).trans hx125_2
          replace hx125_3 := (HB.out.cell (World.block_lt_of_cell? w _ hx125_3)).trans hx125_3
          replace hx125_4 := (HB.out.cell (World.block_lt_of_cell? w _ hx125_4)).trans hx125_4
          replace hx125_5 := (HB.out.cell (World.block_lt_of_cell? w _ hx125_5)).trans hx125_5
          replace hx125_6 := (HB.out.cell (World.block_lt_of_cell? w _ hx125_6)).trans hx125_6
          replace hx125_7 := (HB.out.cell (World.block_lt_of_cell? w _ hx125_7)).trans hx125_7
          replace hx125_8 := (HB.out.cell (World.block_lt_of_cell? w _ hx125_8)).trans hx125_8
          replace p125 := eq_true p125
          replace q125 := eq_true q125
          go_upto_region 8 with (first | ((with_reducible refine gate_dst (N := 9) rfl ?_); refine box_event ?hg (N := 9) ?hd (cs := #[.int .i64 0, .int .i64 0, .int .i64 0, .int .i64 0, .int .i64 0, .int .i64 0, .int .i64 0, .int .i64 0, .int .i64 0]) (t := 55) ?hr ?_; (case hd => rfl); (case hg => rfl); (case hr => first | (go_simp; done) | (go_simp; rfl)); intro gb126 hg w6 hbox hb; have n0_ := Aside0.mk (below_step (by repeat (first | (with_reducible first | exact HB.out | apply below_alloc | apply pw_below_drewN | apply below_drew1) | exact HB.out)) hb); have n1_ := Aside0.mk (hbox); have n2_ := Aside0.mk ((by rw [hg]; exact (below_size (by repeat (first | (with_reducible first | exact HB.out | apply below_alloc | apply pw_below_drewN | apply below_drew1) | exact HB.out))) : w.heap.size ≤ gb126)); have n3_ := Aside0.mk ((by rw [hg]; exact (below_size (by repeat (first | (with_reducible first | exact HB.out | apply below_alloc | apply pw_below_drewN | apply below_drew1) | exact HB.out))) : w.heap.size ≤ gb126)); clear HB; have HB := n0_; have BK126 := n1_; have GW126 := n2_; have GE126 := n3_; clear n0_ n1_ n2_ n3_; clear hb hbox hg; have hcz7_0 : w6.cell? ⟨gb126, 0, none⟩ = some (.int .i64 0) := (blk_cell BK126.out 0).trans rfl; have hcz7_1 : w6.cell? ⟨gb126, 1, none⟩ = some (.int .i64 0) := (blk_cell BK126.out 1).trans rfl; have hcz7_2 : w6.cell? ⟨gb126, 2, none⟩ = some (.int .i64 0) := (blk_cell BK126.out 2).trans rfl; have hcz7_3 : w6.cell? ⟨gb126, 3, none⟩ = some (.int .i64 0) := (blk_cell BK126.out 3).trans rfl; have hcz7_4 : w6.cell? ⟨gb126, 4, none⟩ = some (.int .i64 0) := (blk_cell BK126.out 4).trans rfl; have hcz7_5 : w6.cell? ⟨gb126, 5, none⟩ = some (.int .i64 0) := (blk_cell BK126.out 5).trans rfl; have hcz7_6 : w6.cell? ⟨gb126, 6, none⟩ = some (.int .i64 0) := (blk_cell BK126.out 6).trans rfl; have hcz7_7 : w6.cell? ⟨gb126, 7, none⟩ = some (.int .i64 0) := (blk_cell BK126.out 7).trans rfl; have hcz7_8 : w6.cell? ⟨gb126, 8, none⟩ = some (.int .i64 0) := (blk_cell BK126.out 8).trans rfl; have hfz7_0 := blk_frozen BK126.out 0; have hfz7_1 := blk_frozen BK126.out 1; have hfz7_2 := blk_frozen BK126.out 2; have hfz7_3 := blk_frozen BK126.out 3; have hfz7_4 := blk_frozen BK126.out 4; have hfz7_5 := blk_frozen BK126.out 5; have hfz7_6 := blk_frozen BK126.out 6; have hfz7_7 := blk_frozen BK126.out 7; have hfz7_8 := blk_frozen BK126.out 8))
          (try simp only [Act.put, List.setIfInBounds_toArray, List.set_cons_zero, List.set_cons_succ])
          go_cut [28] (fun v28 wc => ∃ (kq : Nat) (x28_4 : Bool), v28 = .bool x28_4 ∧ Aside0 (spec_WholeAsk.j1 kq l0 a1 x5_1 x6_1 x7_1 x8_1 x28_4 ((rd_T55 l0 x8_1).f0) ((rd_T55 l0 x8_1).f1) ((rd_T55 l0 x8_1).f2) ((rd_T55 l0 x8_1).f3) ((rd_T55 l0 x8_1).f4) ((rd_T55 l0 x8_1).f5) ((rd_T55 l0 x8_1).f6) ((rd_T55 l0 x8_1).f7) ((rd_T55 l0 x8_1).f8) = some r) ∧ Aside0 (kq ≤ k1) ∧ Aside0 (wc.heap[gb126]? = some (.cells #[.int .i64 ((rd_T55 l0 x8_1).f0), .int .i64 ((rd_T55 l0 x8_1).f1), .int .i64 ((rd_T55 l0 x8_1).f2), .int .i64 ((rd_T55 l0 x8_1).f3), .int .i64 ((rd_T55 l0 x8_1).f4), .int .i64 ((rd_T55 l0 x8_1).f5), .int .i64 ((rd_T55 l0 x8_1).f6), .int .i64 ((rd_T55 l0 x8_1).f7), .int .i64 ((rd_T55 l0 x8_1).f8)] 55 (0, 0))) ∧ Aside0 (Below w.heap.size w wc))
          case first =>
            have H := HC5.out
            clear HC5
            by_cases c8 : ((rd_T55 l0 x8_1).f5) = a1
            · rw [if_pos c8] at H
              have c8b0 : (((rd_T55 l0 x8_1).f5) == a1) = true := beq_iff_eq.mpr c8
              have c8b1 : (((rd_T55 l0 x8_1).f5) != a1) = false := bne_eq_false_iff_eq.mpr c8
              clear c8
              (first | rw [c8b0] | (simp only [i64_w, i32_w]; rw [c8b0]) | skip)
              replace H := Option.bind_eq_some_iff.mp H
              obtain ⟨t127, A90, H⟩ := H
              replace H : (spec_WholeAsk.j1 k1 l0 a1 x5_1 x6_1 x7_1 x8_1 (!t127) ((rd_T55 l0 x8_1).f0) ((rd_T55 l0 x8_1).f1) ((rd_T55 l0 x8_1).f2) ((rd_T55 l0 x8_1).f3) ((rd_T55 l0 x8_1).f4) ((rd_T55 l0 x8_1).f5) ((rd_T55 l0 x8_1).f6) ((rd_T55 l0 x8_1).f7) ((rd_T55 l0 x8_1).f8)) = some r := H
              have A9 := Aside0.mk A90
              clear A90
              have H' := Aside0.mk H
              clear H
              have hcz10_0 : w6.cell? ⟨gb126, 0, none⟩ = some (.int .i64 0) := (blk_cell BK126.out 0).trans rfl
              have hcz10_1 : w6.cell? ⟨gb126, 1, none⟩ = some (.int .i64 0) := (blk_cell BK126.out 1).trans rfl
              have hcz10_2 : w6.cell? ⟨gb126, 2, none⟩ = some (.int .i64 0) := (blk_cell BK126.out 2).trans rfl
              have hcz10_3 : w6.cell? ⟨gb126, 3, none⟩ = some (.int .i64 0) := (blk_cell BK126.out 3).trans rfl
              have hcz10_4 : w6.cell? ⟨gb126, 4, none⟩ = some (.int .i64 0) := (blk_cell BK126.out 4).trans rfl
              have hcz10_5 : w6.cell? ⟨gb126, 5, none⟩ = some (.int .i64 0) := (blk_cell BK126.out 5).trans rfl
              have hcz10_6 : w6.cell? ⟨gb126, 6, none⟩ = some (.int .i64 0) := (blk_cell BK126.out 6).trans rfl
              have hcz10_7 : w6.cell? ⟨gb126, 7, none⟩ = some (.int .i64 0) := (blk_cell BK126.out 7).trans rfl
              have hcz10_8 : w6.cell? ⟨gb126, 8, none⟩ = some (.int .i64 0) := (blk_cell BK126.out 8).trans rfl
              have hfz10_0 := blk_frozen BK126.out 0
              have hfz10_1 := blk_frozen BK126.out 1
              have hfz10_2 := blk_frozen BK126.out 2
              have hfz10_3 := blk_frozen BK126.out 3
              have hfz10_4 := blk_frozen BK126.out 4
              have hfz10_5 := blk_frozen BK126.out 5
              have hfz10_6 := blk_frozen BK126.out 6
              have hfz10_7 := blk_frozen BK126.out 7
              have hfz10_8 := blk_frozen BK126.out 8
              go_wp2_with (first | (go_at_call 39; (with_reducible refine (spec_l19Lent.calls ((rd_T55 l0 x8_1).f0) ((rd_T55 l0 x8_1).f1) ((rd_T55 l0 x8_1).f2) ((rd_T55 l0 x8_1).f3) ((rd_T55 l0 x8_1).f4) ((rd_T55 l0 x8_1).f5) ((rd_T55 l0 x8_1).f6) ((rd_T55 l0 x8_1).f7) ((rd_T55 l0 x8_1).f8) t127 _ A9.out).mono ?_); rintro e w11 ⟨rfl, hb⟩; have n0_ := Aside0.mk (blk_below (g := gb126) (o := .cells #[.int .i64 ((rd_T55 l0 x8_1).f0), .int .i64 ((rd_T55 l0 x8_1).f1), .int .i64 ((rd_T55 l0 x8_1).f2), .int .i64 ((rd_T55 l0 x8_1).f3), .int .i64 ((rd_T55 l0 x8_1).f4), .int .i64 ((rd_T55 l0 x8_1).f5), .int .i64 ((rd_T55 l0 x8_1).f6), .int .i64 ((rd_T55 l0 x8_1).f7), .int .i64 ((rd_T55 l0 x8_1).f8)] 55 (0, 0)) (by (with_reducible repeat (first | refine blk_drewN ?_ _ | refine blk_drew ?_ | refine blk_alloc ?_ _)); refine blk_put (cs := #[.int .i64 ((rd_T55 l0 x8_1).f0), .int .i64 ((rd_T55 l0 x8_1).f1), .int .i64 ((rd_T55 l0 x8_1).f2), .int .i64 ((rd_T55 l0 x8_1).f3), .int .i64 ((rd_T55 l0 x8_1).f4), .int .i64 ((rd_T55 l0 x8_1).f5), .int .i64 ((rd_T55 l0 x8_1).f6), .int .i64 ((rd_T55 l0 x8_1).f7), .int .i64 0]) ?_ 8 _ rfl; (with_reducible repeat (first | refine blk_drewN ?_ _ | refine blk_drew ?_ | refine blk_alloc ?_ _)); refine blk_put (cs := #[.int .i64 ((rd_T55 l0 x8_1).f0), .int .i64 ((rd_T55 l0 x8_1).f1), .int .i64 ((rd_T55 l0 x8_1).f2), .int .i64 ((rd_T55 l0 x8_1).f3), .int .i64 ((rd_T55 l0 x8_1).f4), .int .i64 ((rd_T55 l0 x8_1).f5), .int .i64 ((rd_T55 l0 x8_1).f6), .int .i64 0, .int .i64 0]) ?_ 7 _ rfl; (with_reducible repeat (first | refine blk_drewN ?_ _ | refine blk_drew ?_ | refine blk_alloc ?_ _)); refine blk_put (cs := #[.int .i64 ((rd_T55 l0 x8_1).f0), .int .i64 ((rd_T55 l0 x8_1).f1), .int .i64 ((rd_T55 l0 x8_1).f2), .int .i64 ((rd_T55 l0 x8_1).f3), .int .i64 ((rd_T55 l0 x8_1).f4), .int .i64 ((rd_T55 l0 x8_1).f5), .int .i64 0, .int .i64 0, .int .i64 0]) ?_ 6 _ rfl; (with_reducible repeat (first | refine blk_drewN ?_ _ | refine blk_drew ?_ | refine blk_alloc ?_ _)); refine blk_put (cs := #[.int .i64 ((rd_T55 l0 x8_1).f0), .int .i64 ((rd_T55 l0 x8_1).f1), .int .i64 ((rd_T55 l0 x8_1).f2), .int .i64 ((rd_T55 l0 x8_1).f3), .int .i64 ((rd_T55 l0 x8_1).f4), .int .i64 0, .int .i64 0, .int .i64 0, .int .i64 0]) ?_ 5 _ rfl; (with_reducible repeat (first | refine blk_drewN ?_ _ | refine blk_drew ?_ | refine blk_alloc ?_ _)); refine blk_put (cs := #[.int .i64 ((rd_T55 l0 x8_1).f0), .int .i64 ((rd_T55 l0 x8_1).f1), .int .i64 ((rd_T55 l0 x8_1).f2), .int .i64 ((rd_T55 l0 x8_1).f3), .int .i64 0, .int .i64 0, .int .i64 0, .int .i64 0, .int .i64 0]) ?_ 4 _ rfl; (with_reducible repeat (first | refine blk_drewN ?_ _ | refine blk_drew ?_ | refine blk_alloc ?_ _)); refine blk_put (cs := #[.int .i64 ((rd_T55 l0 x8_1).f0), .int .i64 ((rd_T55 l0 x8_1).f1), .int .i64 ((rd_T55 l0 x8_1).f2), .int .i64 0, .int .i64 0, .int .i64 0, .int .i64 0, .int .i64 0, .int .i64 0]) ?_ 3 _ rfl; (with_reducible repeat (first | refine blk_drewN ?_ _ | refine blk_drew ?_ | refine blk_alloc ?_ _)); refine blk_put (cs := #[.int .i64 ((rd_T55 l0 x8_1).f0), .int .i64 ((rd_T55 l0 x8_1).f1), .int .i64 0, .int .i64 0, .int .i64 0, .int .i64 0, .int .i64 0, .int .i64 0, .int .i64 0]) ?_ 2 _ rfl; (with_reducible repeat (first | refine blk_drewN ?_ _ | refine blk_drew ?_ | refine blk_alloc ?_ _)); refine blk_put (cs := #[.int .i64 ((rd_T55 l0 x8_1).f0), .int .i64 0, .int .i64 0, .int .i64 0, .int .i64 0, .int .i64 0, .int .i64 0, .int .i64 0, .int .i64 0]) ?_ 1 _ rfl; (with_reducible repeat (first | refine blk_drewN ?_ _ | refine blk_drew ?_ | refine blk_alloc ?_ _)); refine blk_put (cs := #[.int .i64 0, .int .i64 0, .int .i64 0, .int .i64 0, .int .i64 0, .int .i64 0, .int .i64 0, .int .i64 0, .int .i64 0]) ?_ 0 _ rfl; (with_reducible repeat (first | refine blk_drewN ?_ _ | refine blk_drew ?_ | refine blk_alloc ?_ _)); exact BK126.out) hb); have n1_ := Aside0.mk (below_step (by repeat (first | (with_reducible first | exact HB.out | apply below_alloc | apply pw_below_drewN | apply below_drew1 | refine below_set ?_ GE126.out) | exact HB.out)) hb); clear BK126; clear HB; have BK126 := n0_; have HB := n1_; clear n0_ n1_; (try clear hb); (try clear hb2); (try clear hk); (try clear hi)))
              go_meet
              case rel => exact ⟨_, (!t127), (by first | rfl | (simp; done) | (simp [*]; done)), H', ⟨by have := HK1.out; first | omega | exact Nat.le_refl _⟩, ⟨by (with_reducible repeat (first | refine blk_drewN ?_ _ | refine blk_drew ?_ | refine blk_alloc ?_ _)); exact BK126.out⟩, ⟨by repeat (first | (with_reducible first | exact HB.out | apply below_alloc | apply pw_below_drewN | apply below_drew1 | refine below_set ?_ GE126.out) | exact HB.out)⟩⟩
            · rw [if_neg c8] at H
              have c8b0 : (((rd_T55 l0 x8_1).f5) == a1) = false := beq_eq_false_iff_ne.mpr c8
              have c8b1 : (((rd_T55 l0 x8_1).f5) != a1) = true := bne_iff_ne.mpr c8
              (first | rw [c8b0] | (simp only [i64_w, i32_w]; rw [c8b0]) | skip)
              have H' := Aside0.mk H
              clear H
              have hcz12_0 : w6.cell? ⟨gb126, 0, none⟩ = some (.int .i64 0) := (blk_cell BK126.out 0).trans rfl
              have hcz12_1 : w6.cell? ⟨gb126, 1, none⟩ = some (.int .i64 0) := (blk_cell BK126.out 1).trans rfl
              have hcz12_2 : w6.cell? ⟨gb126, 2, none⟩ = some (.int .i64 0) := (blk_cell BK126.out 2).trans rfl
              have hcz12_3 : w6.cell? ⟨gb126, 3, none⟩ = some (.int .i64 0) := (blk_cell BK126.out 3).trans rfl
              have hcz12_4 : w6.cell? ⟨gb126, 4, none⟩ = some (.int .i64 0) := (blk_cell BK126.out 4).trans rfl
              have hcz12_5 : w6.cell? ⟨gb126, 5, none⟩ = some (.int .i64 0) := (blk_cell BK126.out 5).trans rfl
              have hcz12_6 : w6.cell? ⟨gb126, 6, none⟩ = some (.int .i64 0) := (blk_cell BK126.out 6).trans rfl
              have hcz12_7 : w6.cell? ⟨gb126, 7, none⟩ = some (.int .i64 0) := (blk_cell BK126.out 7).trans rfl
              have hcz12_8 : w6.cell? ⟨gb126, 8, none⟩ = some (.int .i64 0) := (blk_cell BK126.out 8).trans rfl
              have hfz12_0 := blk_frozen BK126.out 0
              have hfz12_1 := blk_frozen BK126.out 1
              have hfz12_2 := blk_frozen BK126.out 2
              have hfz12_3 := blk_frozen BK126.out 3
              have hfz12_4 := blk_frozen BK126.out 4
              have hfz12_5 := blk_frozen BK126.out 5
              have hfz12_6 := blk_frozen BK126.out 6
              have hfz12_7 := blk_frozen BK126.out 7
              have hfz12_8 := blk_frozen BK126.out 8
              go_wp2
              go_meet
              case rel => exact ⟨_, (true), (by first | rfl | (simp; done) | (simp [*]; done)), H', ⟨by have := HK1.out; first | omega | exact Nat.le_refl _⟩, ⟨by (with_reducible repeat (first | refine blk_drewN ?_ _ | refine blk_drew ?_ | refine blk_alloc ?_ _)); refine blk_put (cs := #[.int .i64 ((rd_T55 l0 x8_1).f0), .int .i64 ((rd_T55 l0 x8_1).f1), .int .i64 ((rd_T55 l0 x8_1).f2), .int .i64 ((rd_T55 l0 x8_1).f3), .int .i64 ((rd_T55 l0 x8_1).f4), .int .i64 ((rd_T55 l0 x8_1).f5), .int .i64 ((rd_T55 l0 x8_1).f6), .int .i64 ((rd_T55 l0 x8_1).f7), .int .i64 0]) ?_ 8 _ rfl; (with_reducible repeat (first | refine blk_drewN ?_ _ | refine blk_drew ?_ | refine blk_alloc ?_ _)); refine blk_put (cs := #[.int .i64 ((rd_T55 l0 x8_1).f0), .int .i64 ((rd_T55 l0 x8_1).f1), .int .i64 ((rd_T55 l0 x8_1).f2), .int .i64 ((rd_T55 l0 x8_1).f3), .int .i64 ((rd_T55 l0 x8_1).f4), .int .i64 ((rd_T55 l0 x8_1).f5), .int .i64 ((rd_T55 l0 x8_1).f6), .int .i64 0, .int .i64 0]) ?_ 7 _ rfl; (with_reducible repeat (first | refine blk_drewN ?_ _ | refine blk_drew ?_ | refine blk_alloc ?_ _)); refine blk_put (cs := #[.int .i64 ((rd_T55 l0 x8_1).f0), .int .i64 ((rd_T55 l0 x8_1).f1), .int .i64 ((rd_T55 l0 x8_1).f2), .int .i64 ((rd_T55 l0 x8_1).f3), .int .i64 ((rd_T55 l0 x8_1).f4), .int .i64 ((rd_T55 l0 x8_1).f5), .int .i64 0, .int .i64 0, .int .i64 0]) ?_ 6 _ rfl; (with_reducible repeat (first | refine blk_drewN ?_ _ | refine blk_drew ?_ | refine blk_alloc ?_ _)); refine blk_put (cs := #[.int .i64 ((rd_T55 l0 x8_1).f0), .int .i64 ((rd_T55 l0 x8_1).f1), .int .i64 ((rd_T55 l0 x8_1).f2), .int .i64 ((rd_T55 l0 x8_1).f3), .int .i64 ((rd_T55 l0 x8_1).f4), .int .i64 0, .int .i64 0, .int .i64 0, .int .i64 0]) ?_ 5 _ rfl; (with_reducible repeat (first | refine blk_drewN ?_ _ | refine blk_drew ?_ | refine blk_alloc ?_ _)); refine blk_put (cs := #[.int .i64 ((rd_T55 l0 x8_1).f0), .int .i64 ((rd_T55 l0 x8_1).f1), .int .i64 ((rd_T55 l0 x8_1).f2), .int .i64 ((rd_T55 l0 x8_1).f3), .int .i64 0, .int .i64 0, .int .i64 0, .int .i64 0, .int .i64 0]) ?_ 4 _ rfl; (with_reducible repeat (first | refine blk_drewN ?_ _ | refine blk_drew ?_ | refine blk_alloc ?_ _)); refine blk_put (cs := #[.int .i64 ((rd_T55 l0 x8_1).f0), .int .i64 ((rd_T55 l0 x8_1).f1), .int .i64 ((rd_T55 l0 x8_1).f2), .int .i64 0, .int .i64 0, .int .i64 0, .int .i64 0, .int .i64 0, .int .i64 0]) ?_ 3 _ rfl; (with_reducible repeat (first | refine blk_drewN ?_ _ | refine blk_drew ?_ | refine blk_alloc ?_ _)); refine blk_put (cs := #[.int .i64 ((rd_T55 l0 x8_1).f0), .int .i64 ((rd_T55 l0 x8_1).f1), .int .i64 0, .int .i64 0, .int .i64 0, .int .i64 0, .int .i64 0, .int .i64 0, .int .i64 0]) ?_ 2 _ rfl; (with_reducible repeat (first | refine blk_drewN ?_ _ | refine blk_drew ?_ | refine blk_alloc ?_ _)); refine blk_put (cs := #[.int .i64 ((rd_T55 l0 x8_1).f0), .int .i64 0, .int .i64 0, .int .i64 0, .int .i64 0, .int .i64 0, .int .i64 0, .int .i64 0, .int .i64 0]) ?_ 1 _ rfl; (with_reducible repeat (first | refine blk_drewN ?_ _ | refine blk_drew ?_ | refine blk_alloc ?_ _)); refine blk_put (cs := #[.int .i64 0, .int .i64 0, .int .i64 0, .int .i64 0, .int .i64 0, .int .i64 0, .int .i64 0, .int .i64 0, .int .i64 0]) ?_ 0 _ rfl; (with_reducible repeat (first | refine blk_drewN ?_ _ | refine blk_drew ?_ | refine blk_alloc ?_ _)); exact BK126.out⟩, ⟨by repeat (first | (with_reducible first | exact HB.out | apply below_alloc | apply pw_below_drewN | apply below_drew1 | refine below_set ?_ GE126.out) | exact HB.out)⟩⟩
          case rest =>
            clear HC5
            try clear p1
            try clear q1
            try clear hx1
            try clear c2
            try clear p2
            try clear c3
            try clear c3b0
            try clear c4
            try clear c4b0
            try clear c8
            try clear c8b0
            try clear c8b1
            try clear p12
            try clear q12
            try clear hx12
            try clear hcz10_0
            try clear hcz10_1
            try clear hcz10_2
            try clear hcz10_3
            try clear hcz10_4
            try clear hcz10_5
            try clear hcz10_6
            try clear hcz10_7
            try clear hcz10_8
            try clear hcz12_0
            try clear hcz12_1
            try clear hcz12_2
            try clear hcz12_3
            try clear hcz12_4
            try clear hcz12_5
            try clear hcz12_6
            try clear hcz12_7
            try clear hcz12_8
            try clear hcz7_0
            try clear hcz7_1
            try clear hcz7_2
            try clear hcz7_3
            try clear hcz7_4
            try clear hcz7_5
            try clear hcz7_6
            try clear hcz7_7
            try clear hcz7_8
            try clear hfz10_0
            try clear hfz10_1
            try clear hfz10_2
            try clear hfz10_3
            try clear hfz10_4
            try clear hfz10_5
            try clear hfz10_6
            try clear hfz10_7
            try clear hfz10_8
            try clear hfz12_0
            try clear hfz12_1
            try clear hfz12_2
            try clear hfz12_3
            try clear hfz12_4
            try clear hfz12_5
            try clear hfz12_6
            try clear hfz12_7
            try clear hfz12_8
            try clear hfz7_0
            try clear hfz7_1
            try clear hfz7_2
            try clear hfz7_3
            try clear hfz7_4
            try clear hfz7_5
            try clear hfz7_6
            try clear hfz7_7
            try clear hfz7_8
            try clear hx125_0
            try clear hx125_1
            try clear hx125_2
            try clear hx125_3
            try clear hx125_4
            try clear hx125_5
            try clear hx125_6
            try clear hx125_7
            try clear hx125_8
            try clear p125
            try clear p2
            try clear q125
            obtain ⟨kq, x28_4, rfl, HA, HJ4, BK126, HB⟩ := hcut
            cases kq with
            | zero => exact absurd HA.out (by simp [spec_WholeAsk.j1])
            | succ kj4 =>
              have H := HA.out
              clear HA
              simp only [spec_WholeAsk.j1] at H
              by_cases c13 : x28_4 = true
              · subst c13
                have H1 : (spec_WholeAsk.l0 kj4 l0 a1 x5_1 x6_1 x7_1 (wrap64 (x8_1 + 1))) = some r := by rw [if_pos rfl] at H; exact H
                clear H
                have H := H1
                clear H1
                have H' := Aside0.mk H
                clear H
                go_wp2
                go_roundg kj4
                case measure => have := HK1.out; have := HJ4.out; omega
                case rel => exact ⟨(x5_1), (x6_1), (x7_1), (wrap64 (x8_1 + 1)), (by first | rfl | (simp; done) | (simp [*]; done)), (by first | rfl | (simp; done) | (simp [*]; done)), (by first | rfl | (simp; done) | (simp [*]; done)), (by first | rfl | (simp; done) | (simp [*]; done)), H', ⟨by have := HK1.out; have := HJ4.out; omega⟩, ⟨by repeat (first | (with_reducible first | exact HB.out | apply below_alloc | apply pw_below_drewN | apply below_drew1 | refine below_set ?_ GE126.out) | exact HB.out)⟩⟩
              · replace c13 := Bool.eq_false_iff.mpr c13
                subst c13
                have H1 : (if ((rd_T55 l0 x8_1).f0) = 1 then (if x7_1 = true then (some false) else (spec_WholeAsk.l0 kj4 l0 a1 ((rd_T55 l0 x8_1).f6) ((rd_T55 l0 x8_1).f7) true (wrap64 (x8_1 + 1)))) else (if x7_1 = true then (if ((rd_T55 l0 x8_1).f6) = x5_1 then (spec_WholeAsk.j2 kj4 l0 a1 x5_1 x6_1 x7_1 x8_1 (((rd_T55 l0 x8_1).f7) != x6_1) ((rd_T55 l0 x8_1).f0) ((rd_T55 l0 x8_1).f1) ((rd_T55 l0 x8_1).f2) ((rd_T55 l0 x8_1).f3) ((rd_T55 l0 x8_1).f4) ((rd_T55 l0 x8_1).f5) ((rd_T55 l0 x8_1).f6) ((rd_T55 l0 x8_1).f7) ((rd_T55 l0 x8_1).f8)) else (spec_WholeAsk.j2 kj4 l0 a1 x5_1 x6_1 x7_1 x8_1 true ((rd_T55 l0 x8_1).f0) ((rd_T55 l0 x8_1).f1) ((rd_T55 l0 x8_1).f2) ((rd_T55 l0 x8_1).f3) ((rd_T55 l0 x8_1).f4) ((rd_T55 l0 x8_1).f5) ((rd_T55 l0 x8_1).f6) ((rd_T55 l0 x8_1).f7) ((rd_T55 l0 x8_1).f8))) else (spec_WholeAsk.j2 kj4 l0 a1 x5_1 x6_1 x7_1 x8_1 true ((rd_T55 l0 x8_1).f0) ((rd_T55 l0 x8_1).f1) ((rd_T55 l0 x8_1).f2) ((rd_T55 l0 x8_1).f3) ((rd_T55 l0 x8_1).f4) ((rd_T55 l0 x8_1).f5) ((rd_T55 l0 x8_1).f6) ((rd_T55 l0 x8_1).f7) ((rd_T55 l0 x8_1).f8)))) = some r := by rw [if_neg (show ¬ (false = true) by decide)] at H; exact H
                clear H
                have H := H1
                clear H1
                by_cases c14 : ((rd_T55 l0 x8_1).f0) = 1
                · rw [if_pos c14] at H
                  have c14b0 : (((rd_T55 l0 x8_1).f0) == 1) = true := beq_iff_eq.mpr c14
                  have c14b1 : (((rd_T55 l0 x8_1).f0) != 1) = false := bne_eq_false_iff_eq.mpr c14
                  clear c14
                  by_cases c15 : x7_1 = true
                  · subst c15
                    have H1 : (some false) = some r := by rw [if_pos rfl] at H; exact H
                    clear H
                    have H := H1
                    clear H1
                    obtain rfl := Option.some.inj H
                    have hcz16_0 : wc.cell? ⟨gb126, 0, none⟩ = some (.int .i64 ((rd_T55 l0 x8_1).f0)) := (blk_cell BK126.out 0).trans rfl
                    have hcz16_1 : wc.cell? ⟨gb126, 1, none⟩ = some (.int .i64 ((rd_T55 l0 x8_1).f1)) := (blk_cell BK126.out 1).trans rfl
                    have hcz16_2 : wc.cell? ⟨gb126, 2, none⟩ = some (.int .i64 ((rd_T55 l0 x8_1).f2)) := (blk_cell BK126.out 2).trans rfl
                    have hcz16_3 : wc.cell? ⟨gb126, 3, none⟩ = some (.int .i64 ((rd_T55 l0 x8_1).f3)) := (blk_cell BK126.out 3).trans rfl
                    have hcz16_4 : wc.cell? ⟨gb126, 4, none⟩ = some (.int .i64 ((rd_T55 l0 x8_1).f4)) := (blk_cell BK126.out 4).trans rfl
                    have hcz16_5 : wc.cell? ⟨gb126, 5, none⟩ = some (.int .i64 ((rd_T55 l0 x8_1).f5)) := (blk_cell BK126.out 5).trans rfl
                    have hcz16_6 : wc.cell? ⟨gb126, 6, none⟩ = some (.int .i64 ((rd_T55 l0 x8_1).f6)) := (blk_cell BK126.out 6).trans rfl
                    have hcz16_7 : wc.cell? ⟨gb126, 7, none⟩ = some (.int .i64 ((rd_T55 l0 x8_1).f7)) := (blk_cell BK126.out 7).trans rfl
                    have hcz16_8 : wc.cell? ⟨gb126, 8, none⟩ = some (.int .i64 ((rd_T55 l0 x8_1).f8)) := (blk_cell BK126.out 8).trans rfl
                    have hfz16_0 := blk_frozen BK126.out 0
                    have hfz16_1 := blk_frozen BK126.out 1
                    have hfz16_2 := blk_frozen BK126.out 2
                    have hfz16_3 := blk_frozen BK126.out 3
                    have hfz16_4 := blk_frozen BK126.out 4
                    have hfz16_5 := blk_frozen BK126.out 5
                    have hfz16_6 := blk_frozen BK126.out 6
                    have hfz16_7 := blk_frozen BK126.out 7
                    have hfz16_8 := blk_frozen BK126.out 8
                    go_wp2
                    go_ret
                    exact ⟨by first | rfl | (simp [errW_none, errW_some] <;> rfl) | (simp [*, errW_none, errW_some] <;> rfl), by repeat (first | (with_reducible first | exact HB.out | apply below_alloc | apply pw_below_drewN | apply below_drew1 | refine below_set ?_ GE126.out) | exact HB.out)⟩
                  · replace c15 := Bool.eq_false_iff.mpr c15
                    subst c15
                    have H1 : (spec_WholeAsk.l0 kj4 l0 a1 ((rd_T55 l0 x8_1).f6) ((rd_T55 l0 x8_1).f7) true (wrap64 (x8_1 + 1))) = some r := by rw [if_neg (show ¬ (false = true) by decide)] at H; exact H
                    clear H
                    have H := H1
                    clear H1
                    have H' := Aside0.mk H
                    clear H
                    have hcz17_0 : wc.cell? ⟨gb126, 0, none⟩ = some (.int .i64 ((rd_T55 l0 x8_1).f0)) := (blk_cell BK126.out 0).trans rfl
                    have hcz17_1 : wc.cell? ⟨gb126, 1, none⟩ = some (.int .i64 ((rd_T55 l0 x8_1).f1)) := (blk_cell BK126.out 1).trans rfl
                    have hcz17_2 : wc.cell? ⟨gb126, 2, none⟩ = some (.int .i64 ((rd_T55 l0 x8_1).f2)) := (blk_cell BK126.out 2).trans rfl
                    have hcz17_3 : wc.cell? ⟨gb126, 3, none⟩ = some (.int .i64 ((rd_T55 l0 x8_1).f3)) := (blk_cell BK126.out 3).trans rfl
                    have hcz17_4 : wc.cell? ⟨gb126, 4, none⟩ = some (.int .i64 ((rd_T55 l0 x8_1).f4)) := (blk_cell BK126.out 4).trans rfl
                    have hcz17_5 : wc.cell? ⟨gb126, 5, none⟩ = some (.int .i64 ((rd_T55 l0 x8_1).f5)) := (blk_cell BK126.out 5).trans rfl
                    have hcz17_6 : wc.cell? ⟨gb126, 6, none⟩ = some (.int .i64 ((rd_T55 l0 x8_1).f6)) := (blk_cell BK126.out 6).trans rfl
                    have hcz17_7 : wc.cell? ⟨gb126, 7, none⟩ = some (.int .i64 ((rd_T55 l0 x8_1).f7)) := (blk_cell BK126.out 7).trans rfl
                    have hcz17_8 : wc.cell? ⟨gb126, 8, none⟩ = some (.int .i64 ((rd_T55 l0 x8_1).f8)) := (blk_cell BK126.out 8).trans rfl
                    have hfz17_0 := blk_frozen BK126.out 0
                    have hfz17_1 := blk_frozen BK126.out 1
                    have hfz17_2 := blk_frozen BK126.out 2
                    have hfz17_3 := blk_frozen BK126.out 3
                    have hfz17_4 := blk_frozen BK126.out 4
                    have hfz17_5 := blk_frozen BK126.out 5
                    have hfz17_6 := blk_frozen BK126.out 6
                    have hfz17_7 := blk_frozen BK126.out 7
                    have hfz17_8 := blk_frozen BK126.out 8
                    go_wp2
                    go_roundg kj4
                    case measure => have := HK1.out; have := HJ4.out; omega
                    case rel => exact ⟨(((rd_T55 l0 x8_1).f6)), (((rd_T55 l0 x8_1).f7)), (true), (wrap64 (x8_1 + 1)), (by first | rfl | (simp; done) | (simp [*]; done)), (by first | rfl | (simp; done) | (simp [*]; done)), (by first | rfl | (simp; done) | (simp [*]; done)), (by first | rfl | (simp; done) | (simp [*]; done)), H', ⟨by have := HK1.out; have := HJ4.out; omega⟩, ⟨by repeat (first | (with_reducible first | exact HB.out | apply below_alloc | apply pw_below_drewN | apply below_drew1 | refine below_set ?_ GE126.out) | exact HB.out)⟩⟩
                · rw [if_neg c14] at H
                  have c14b0 : (((rd_T55 l0 x8_1).f0) == 1) = false := beq_eq_false_iff_ne.mpr c14
                  have c14b1 : (((rd_T55 l0 x8_1).f0) != 1) = true := bne_iff_ne.mpr c14
                  have HC18 := Aside0.mk H
                  clear H
                  have hcz19_0 : wc.cell? ⟨gb126, 0, none⟩ = some (.int .i64 ((rd_T55 l0 x8_1).f0)) := (blk_cell BK126.out 0).trans rfl
                  have hcz19_1 : wc.cell? ⟨gb126, 1, none⟩ = some (.int .i64 ((rd_T55 l0 x8_1).f1)) := (blk_cell BK126.out 1).trans rfl
                  have hcz19_2 : wc.cell? ⟨gb126, 2, none⟩ = some (.int .i64 ((rd_T55 l0 x8_1).f2)) := (blk_cell BK126.out 2).trans rfl
                  have hcz19_3 : wc.cell? ⟨gb126, 3, none⟩ = some (.int .i64 ((rd_T55 l0 x8_1).f3)) := (blk_cell BK126.out 3).trans rfl
                  have hcz19_4 : wc.cell? ⟨gb126, 4, none⟩ = some (.int .i64 ((rd_T55 l0 x8_1).f4)) := (blk_cell BK126.out 4).trans rfl
                  have hcz19_5 : wc.cell? ⟨gb126, 5, none⟩ = some (.int .i64 ((rd_T55 l0 x8_1).f5)) := (blk_cell BK126.out 5).trans rfl
                  have hcz19_6 : wc.cell? ⟨gb126, 6, none⟩ = some (.int .i64 ((rd_T55 l0 x8_1).f6)) := (blk_cell BK126.out 6).trans rfl
                  have hcz19_7 : wc.cell? ⟨gb126, 7, none⟩ = some (.int .i64 ((rd_T55 l0 x8_1).f7)) := (blk_cell BK126.out 7).trans rfl
                  have hcz19_8 : wc.cell? ⟨gb126, 8, none⟩ = some (.int .i64 ((rd_T55 l0 x8_1).f8)) := (blk_cell BK126.out 8).trans rfl
                  have hfz19_0 := blk_frozen BK126.out 0
                  have hfz19_1 := blk_frozen BK126.out 1
                  have hfz19_2 := blk_frozen BK126.out 2
                  have hfz19_3 := blk_frozen BK126.out 3
                  have hfz19_4 := blk_frozen BK126.out 4
                  have hfz19_5 := blk_frozen BK126.out 5
                  have hfz19_6 := blk_frozen BK126.out 6
                  have hfz19_7 := blk_frozen BK126.out 7
                  have hfz19_8 := blk_frozen BK126.out 8
                  go_upto_region 15 with (fail)
                  go_cut [50] (fun v50 wc => ∃ (kq : Nat) (x50_17 : Bool), v50 = .bool x50_17 ∧ Aside0 (spec_WholeAsk.j2 kq l0 a1 x5_1 x6_1 x7_1 x8_1 x50_17 ((rd_T55 l0 x8_1).f0) ((rd_T55 l0 x8_1).f1) ((rd_T55 l0 x8_1).f2) ((rd_T55 l0 x8_1).f3) ((rd_T55 l0 x8_1).f4) ((rd_T55 l0 x8_1).f5) ((rd_T55 l0 x8_1).f6) ((rd_T55 l0 x8_1).f7) ((rd_T55 l0 x8_1).f8) = some r) ∧ Aside0 (kq ≤ kj4) ∧ Aside0 (wc.heap[gb126]? = some (.cells #[.int .i64 ((rd_T55 l0 x8_1).f0), .int .i64 ((rd_T55 l0 x8_1).f1), .int .i64 ((rd_T55 l0 x8_1).f2), .int .i64 ((rd_T55 l0 x8_1).f3), .int .i64 ((rd_T55 l0 x8_1).f4), .int .i64 ((rd_T55 l0 x8_1).f5), .int .i64 ((rd_T55 l0 x8_1).f6), .int .i64 ((rd_T55 l0 x8_1).f7), .int .i64 ((rd_T55 l0 x8_1).f8)] 55 (0, 0))) ∧ Aside0 (Below w.heap.size w wc))
                  case first =>
                    have H := HC18.out
                    clear HC18
                    by_cases c20 : x7_1 = true
                    · subst c20
                      have H1 : (if ((rd_T55 l0 x8_1).f6) = x5_1 then (spec_WholeAsk.j2 kj4 l0 a1 x5_1 x6_1 true x8_1 (((rd_T55 l0 x8_1).f7) != x6_1) ((rd_T55 l0 x8_1).f0) ((rd_T55 l0 x8_1).f1) ((rd_T55 l0 x8_1).f2) ((rd_T55 l0 x8_1).f3) ((rd_T55 l0 x8_1).f4) ((rd_T55 l0 x8_1).f5) ((rd_T55 l0 x8_1).f6) ((rd_T55 l0 x8_1).f7) ((rd_T55 l0 x8_1).f8)) else (spec_WholeAsk.j2 kj4 l0 a1 x5_1 x6_1 true x8_1 true ((rd_T55 l0 x8_1).f0) ((rd_T55 l0 x8_1).f1) ((rd_T55 l0 x8_1).f2) ((rd_T55 l0 x8_1).f3) ((rd_T55 l0 x8_1).f4) ((rd_T55 l0 x8_1).f5) ((rd_T55 l0 x8_1).f6) ((rd_T55 l0 x8_1).f7) ((rd_T55 l0 x8_1).f8))) = some r := by rw [if_pos rfl] at H; exact H
                      clear H
                      have H := H1
                      clear H1
                      by_cases c21 : ((rd_T55 l0 x8_1).f6) = x5_1
                      · rw [if_pos c21] at H
                        have c21b0 : (((rd_T55 l0 x8_1).f6) == x5_1) = true := beq_iff_eq.mpr c21
                        have c21b1 : (((rd_T55 l0 x8_1).f6) != x5_1) = false := bne_eq_false_iff_eq.mpr c21
                        clear c21
                        (first | rw [c21b0] | (simp only [i64_w, i32_w]; rw [c21b0]) | skip)
                        have H' := Aside0.mk H
                        clear H
                        have hcz22_0 : wc.cell? ⟨gb126, 0, none⟩ = some (.int .i64 ((rd_T55 l0 x8_1).f0)) := (blk_cell BK126.out 0).trans rfl
                        have hcz22_1 : wc.cell? ⟨gb126, 1, none⟩ = some (.int .i64 ((rd_T55 l0 x8_1).f1)) := (blk_cell BK126.out 1).trans rfl
                        have hcz22_2 : wc.cell? ⟨gb126, 2, none⟩ = some (.int .i64 ((rd_T55 l0 x8_1).f2)) := (blk_cell BK126.out 2).trans rfl
                        have hcz22_3 : wc.cell? ⟨gb126, 3, none⟩ = some (.int .i64 ((rd_T55 l0 x8_1).f3)) := (blk_cell BK126.out 3).trans rfl
                        have hcz22_4 : wc.cell? ⟨gb126, 4, none⟩ = some (.int .i64 ((rd_T55 l0 x8_1).f4)) := (blk_cell BK126.out 4).trans rfl
                        have hcz22_5 : wc.cell? ⟨gb126, 5, none⟩ = some (.int .i64 ((rd_T55 l0 x8_1).f5)) := (blk_cell BK126.out 5).trans rfl
                        have hcz22_6 : wc.cell? ⟨gb126, 6, none⟩ = some (.int .i64 ((rd_T55 l0 x8_1).f6)) := (blk_cell BK126.out 6).trans rfl
                        have hcz22_7 : wc.cell? ⟨gb126, 7, none⟩ = some (.int .i64 ((rd_T55 l0 x8_1).f7)) := (blk_cell BK126.out 7).trans rfl
                        have hcz22_8 : wc.cell? ⟨gb126, 8, none⟩ = some (.int .i64 ((rd_T55 l0 x8_1).f8)) := (blk_cell BK126.out 8).trans rfl
                        have hfz22_0 := blk_frozen BK126.out 0
                        have hfz22_1 := blk_frozen BK126.out 1
                        have hfz22_2 := blk_frozen BK126.out 2
                        have hfz22_3 := blk_frozen BK126.out 3
                        have hfz22_4 := blk_frozen BK126.out 4
                        have hfz22_5 := blk_frozen BK126.out 5
                        have hfz22_6 := blk_frozen BK126.out 6
                        have hfz22_7 := blk_frozen BK126.out 7
                        have hfz22_8 := blk_frozen BK126.out 8
                        go_wp2
                        go_meet
                        case rel => exact ⟨_, ((((rd_T55 l0 x8_1).f7) != x6_1)), (by first | rfl | (simp; done) | (simp [*]; done)), H', ⟨by have := HK1.out; have := HJ4.out; first | omega | exact Nat.le_refl _⟩, ⟨by (with_reducible repeat (first | refine blk_drewN ?_ _ | refine blk_drew ?_ | refine blk_alloc ?_ _)); exact BK126.out⟩, ⟨by repeat (first | (with_reducible first | exact HB.out | apply below_alloc | apply pw_below_drewN | apply below_drew1 | refine below_set ?_ GE126.out) | exact HB.out)⟩⟩
                      · rw [if_neg c21] at H
                        have c21b0 : (((rd_T55 l0 x8_1).f6) == x5_1) = false := beq_eq_false_iff_ne.mpr c21
                        have c21b1 : (((rd_T55 l0 x8_1).f6) != x5_1) = true := bne_iff_ne.mpr c21
                        (first | rw [c21b0] | (simp only [i64_w, i32_w]; rw [c21b0]) | skip)
                        have H' := Aside0.mk H
                        clear H
                        have hcz23_0 : wc.cell? ⟨gb126, 0, none⟩ = some (.int .i64 ((rd_T55 l0 x8_1).f0)) := (blk_cell BK126.out 0).trans rfl
                        have hcz23_1 : wc.cell? ⟨gb126, 1, none⟩ = some (.int .i64 ((rd_T55 l0 x8_1).f1)) := (blk_cell BK126.out 1).trans rfl
                        have hcz23_2 : wc.cell? ⟨gb126, 2, none⟩ = some (.int .i64 ((rd_T55 l0 x8_1).f2)) := (blk_cell BK126.out 2).trans rfl
                        have hcz23_3 : wc.cell? ⟨gb126, 3, none⟩ = some (.int .i64 ((rd_T55 l0 x8_1).f3)) := (blk_cell BK126.out 3).trans rfl
                        have hcz23_4 : wc.cell? ⟨gb126, 4, none⟩ = some (.int .i64 ((rd_T55 l0 x8_1).f4)) := (blk_cell BK126.out 4).trans rfl
                        have hcz23_5 : wc.cell? ⟨gb126, 5, none⟩ = some (.int .i64 ((rd_T55 l0 x8_1).f5)) := (blk_cell BK126.out 5).trans rfl
                        have hcz23_6 : wc.cell? ⟨gb126, 6, none⟩ = some (.int .i64 ((rd_T55 l0 x8_1).f6)) := (blk_cell BK126.out 6).trans rfl
                        have hcz23_7 : wc.cell? ⟨gb126, 7, none⟩ = some (.int .i64 ((rd_T55 l0 x8_1).f7)) := (blk_cell BK126.out 7).trans rfl
                        have hcz23_8 : wc.cell? ⟨gb126, 8, none⟩ = some (.int .i64 ((rd_T55 l0 x8_1).f8)) := (blk_cell BK126.out 8).trans rfl
                        have hfz23_0 := blk_frozen BK126.out 0
                        have hfz23_1 := blk_frozen BK126.out 1
                        have hfz23_2 := blk_frozen BK126.out 2
                        have hfz23_3 := blk_frozen BK126.out 3
                        have hfz23_4 := blk_frozen BK126.out 4
                        have hfz23_5 := blk_frozen BK126.out 5
                        have hfz23_6 := blk_frozen BK126.out 6
                        have hfz23_7 := blk_frozen BK126.out 7
                        have hfz23_8 := blk_frozen BK126.out 8
                        go_wp2
                        go_meet
                        case rel => exact ⟨_, (true), (by first | rfl | (simp; done) | (simp [*]; done)), H', ⟨by have := HK1.out; have := HJ4.out; first | omega | exact Nat.le_refl _⟩, ⟨by (with_reducible repeat (first | refine blk_drewN ?_ _ | refine blk_drew ?_ | refine blk_alloc ?_ _)); exact BK126.out⟩, ⟨by repeat (first | (with_reducible first | exact HB.out | apply below_alloc | apply pw_below_drewN | apply below_drew1 | refine below_set ?_ GE126.out) | exact HB.out)⟩⟩
                    · replace c20 := Bool.eq_false_iff.mpr c20
                      subst c20
                      have H1 : (spec_WholeAsk.j2 kj4 l0 a1 x5_1 x6_1 false x8_1 true ((rd_T55 l0 x8_1).f0) ((rd_T55 l0 x8_1).f1) ((rd_T55 l0 x8_1).f2) ((rd_T55 l0 x8_1).f3) ((rd_T55 l0 x8_1).f4) ((rd_T55 l0 x8_1).f5) ((rd_T55 l0 x8_1).f6) ((rd_T55 l0 x8_1).f7) ((rd_T55 l0 x8_1).f8)) = some r := by rw [if_neg (show ¬ (false = true) by decide)] at H; exact H
                      clear H
                      have H := H1
                      clear H1
                      have H' := Aside0.mk H
                      clear H
                      go_wp2
                      go_meet
                      case rel => exact ⟨_, (true), (by first | rfl | (simp; done) | (simp [*]; done)), H', ⟨by have := HK1.out; have := HJ4.out; first | omega | exact Nat.le_refl _⟩, ⟨by (with_reducible repeat (first | refine blk_drewN ?_ _ | refine blk_drew ?_ | refine blk_alloc ?_ _)); exact BK126.out⟩, ⟨by repeat (first | (with_reducible first | exact HB.out | apply below_alloc | apply pw_below_drewN | apply below_drew1 | refine below_set ?_ GE126.out) | exact HB.out)⟩⟩
                  case rest =>
                    clear HC18
                    try clear c1
                    try clear p1
                    try clear q1
                    try clear hx1
                    try clear c2
                    try clear p2
                    try clear c3
                    try clear c3b0
                    try clear c4
                    try clear c4b0
                    try clear p6
                    try clear c8
                    try clear c8b0
                    try clear c8b1
                    try clear p12
                    try clear q12
                    try clear hx12
                    try clear c13
                    try clear c14
                    try clear c14b0
                    try clear c14b1
                    try clear c15
                    try clear c20
                    try clear c21
                    try clear c21b0
                    try clear c21b1
                    try clear c23
                    try clear hcz10_0
                    try clear hcz10_1
                    try clear hcz10_2
                    try clear hcz10_3
                    try clear hcz10_4
                    try clear hcz10_5
                    try clear hcz10_6
                    try clear hcz10_7
                    try clear hcz10_8
                    try clear hcz12_0
                    try clear hcz12_1
                    try clear hcz12_2
                    try clear hcz12_3
                    try clear hcz12_4
                    try clear hcz12_5
                    try clear hcz12_6
                    try clear hcz12_7
                    try clear hcz12_8
                    try clear hcz16_0
                    try clear hcz16_1
                    try clear hcz16_2
                    try clear hcz16_3
                    try clear hcz16_4
                    try clear hcz16_5
                    try clear hcz16_6
                    try clear hcz16_7
                    try clear hcz16_8
                    try clear hcz17_0
                    try clear hcz17_1
                    try clear hcz17_2
                    try clear hcz17_3
                    try clear hcz17_4
                    try clear hcz17_5
                    try clear hcz17_6
                    try clear hcz17_7
                    try clear hcz17_8
                    try clear hcz19_0
                    try clear hcz19_1
                    try clear hcz19_2
                    try clear hcz19_3
                    try clear hcz19_4
                    try clear hcz19_5
                    try clear hcz19_6
                    try clear hcz19_7
                    try clear hcz19_8
                    try clear hcz22_0
                    try clear hcz22_1
                    try clear hcz22_2
                    try clear hcz22_3
                    try clear hcz22_4
                    try clear hcz22_5
                    try clear hcz22_6
                    try clear hcz22_7
                    try clear hcz22_8
                    try clear hcz23_0
                    try clear hcz23_1
                    try clear hcz23_2
                    try clear hcz23_3
                    try clear hcz23_4
                    try clear hcz23_5
                    try clear hcz23_6
                    try clear hcz23_7
                    try clear hcz23_8
                    try clear hcz7_0
                    try clear hcz7_1
                    try clear hcz7_2
                    try clear hcz7_3
                    try clear hcz7_4
                    try clear hcz7_5
                    try clear hcz7_6
                    try clear hcz7_7
                    try clear hcz7_8
                    try clear hfz10_0
                    try clear hfz10_1
                    try clear hfz10_2
                    try clear hfz10_3
                    try clear hfz10_4
                    try clear hfz10_5
                    try clear hfz10_6
                    try clear hfz10_7
                    try clear hfz10_8
                    try clear hfz12_0
                    try clear hfz12_1
                    try clear hfz12_2
                    try clear hfz12_3
                    try clear hfz12_4
                    try clear hfz12_5
                    try clear hfz12_6
                    try clear hfz12_7
                    try clear hfz12_8
                    try clear hfz16_0
                    try clear hfz16_1
                    try clear hfz16_2
                    try clear hfz16_3
                    try clear hfz16_4
                    try clear hfz16_5
                    try clear hfz16_6
                    try clear hfz16_7
                    try clear hfz16_8
                    try clear hfz17_0
                    try clear hfz17_1
                    try clear hfz17_2
                    try clear hfz17_3
                    try clear hfz17_4
                    try clear hfz17_5
                    try clear hfz17_6
                    try clear hfz17_7
                    try clear hfz17_8
                    try clear hfz19_0
                    try clear hfz19_1
                    try clear hfz19_2
                    try clear hfz19_3
                    try clear hfz19_4
                    try clear hfz19_5
                    try clear hfz19_6
                    try clear hfz19_7
                    try clear hfz19_8
                    try clear hfz22_0
                    try clear hfz22_1
                    try clear hfz22_2
                    try clear hfz22_3
                    try clear hfz22_4
                    try clear hfz22_5
                    try clear hfz22_6
                    try clear hfz22_7
                    try clear hfz22_8
                    try clear hfz23_0
                    try clear hfz23_1
                    try clear hfz23_2
                    try clear hfz23_3
                    try clear hfz23_4
                    try clear hfz23_5
                    try clear hfz23_6
                    try clear hfz23_7
                    try clear hfz23_8
                    try clear hfz7_0
                    try clear hfz7_1
                    try clear hfz7_2
                    try clear hfz7_3
                    try clear hfz7_4
                    try clear hfz7_5
                    try clear hfz7_6
                    try clear hfz7_7
                    try clear hfz7_8
                    try clear hx125_0
                    try clear hx125_1
                    try clear hx125_2
                    try clear hx125_3
                    try clear hx125_4
                    try clear hx125_5
                    try clear hx125_6
                    try clear hx125_7
                    try clear hx125_8
                    try clear p1
                    try clear p12
                    try clear p125
                    try clear p2
                    try clear q1
                    try clear q12
                    try clear q125
                    obtain ⟨kq, x50_17, rfl, HA, HJ17, BK126, HB⟩ := hcut
                    cases kq with
                    | zero => exact absurd HA.out (by simp [spec_WholeAsk.j2])
                    | succ kj17 =>
                      have H := HA.out
                      clear HA
                      simp only [spec_WholeAsk.j2] at H
                      by_cases c24 : x50_17 = true
                      · subst c24
                        have H1 : (some false) = some r := by rw [if_pos rfl] at H; exact H
                        clear H
                        have H := H1
                        clear H1
                        obtain rfl := Option.some.inj H
                        go_wp2
                        go_ret
                        exact ⟨by first | rfl | (simp [errW_none, errW_some] <;> rfl) | (simp [*, errW_none, errW_some] <;> rfl), by repeat (first | (with_reducible first | exact HB.out | apply below_alloc | apply pw_below_drewN | apply below_drew1 | refine below_set ?_ GE126.out) | exact HB.out)⟩
                      · replace c24 := Bool.eq_false_iff.mpr c24
                        subst c24
                        have H1 : (if ((rd_T55 l0 x8_1).f0) = 4 then (spec_WholeAsk.l0 kj17 l0 a1 x5_1 x6_1 false (wrap64 (x8_1 + 1))) else (if ((rd_T55 l0 x8_1).f0) = 5 then (spec_WholeAsk.l0 kj17 l0 a1 x5_1 x6_1 false (wrap64 (x8_1 + 1))) else (spec_WholeAsk.l0 kj17 l0 a1 x5_1 x6_1 x7_1 (wrap64 (x8_1 + 1))))) = some r := by rw [if_neg (show ¬ (false = true) by decide)] at H; exact H
                        clear H
                        have H := H1
                        clear H1
                        by_cases c25 : ((rd_T55 l0 x8_1).f0) = 4
                        · rw [if_pos c25] at H
                          have c25b0 : (((rd_T55 l0 x8_1).f0) == 4) = true := beq_iff_eq.mpr c25
                          have c25b1 : (((rd_T55 l0 x8_1).f0) != 4) = false := bne_eq_false_iff_eq.mpr c25
                          clear c25
                          have H' := Aside0.mk H
                          clear H
                          have hcz26_0 : wc.cell? ⟨gb126, 0, none⟩ = some (.int .i64 ((rd_T55 l0 x8_1).f0)) := (blk_cell BK126.out 0).trans rfl
                          have hcz26_1 : wc.cell? ⟨gb126, 1, none⟩ = some (.int .i64 ((rd_T55 l0 x8_1).f1)) := (blk_cell BK126.out 1).trans rfl
                          have hcz26_2 : wc.cell? ⟨gb126, 2, none⟩ = some (.int .i64 ((rd_T55 l0 x8_1).f2)) := (blk_cell BK126.out 2).trans rfl
                          have hcz26_3 : wc.cell? ⟨gb126, 3, none⟩ = some (.int .i64 ((rd_T55 l0 x8_1).f3)) := (blk_cell BK126.out 3).trans rfl
                          have hcz26_4 : wc.cell? ⟨gb126, 4, none⟩ = some (.int .i64 ((rd_T55 l0 x8_1).f4)) := (blk_cell BK126.out 4).trans rfl
                          have hcz26_5 : wc.cell? ⟨gb126, 5, none⟩ = some (.int .i64 ((rd_T55 l0 x8_1).f5)) := (blk_cell BK126.out 5).trans rfl
                          have hcz26_6 : wc.cell? ⟨gb126, 6, none⟩ = some (.int .i64 ((rd_T55 l0 x8_1).f6)) := (blk_cell BK126.out 6).trans rfl
                          have hcz26_7 : wc.cell? ⟨gb126, 7, none⟩ = some (.int .i64 ((rd_T55 l0 x8_1).f7)) := (blk_cell BK126.out 7).trans rfl
                          have hcz26_8 : wc.cell? ⟨gb126, 8, none⟩ = some (.int .i64 ((rd_T55 l0 x8_1).f8)) := (blk_cell BK126.out 8).trans rfl
                          have hfz26_0 := blk_frozen BK126.out 0
                          have hfz26_1 := blk_frozen BK126.out 1
                          have hfz26_2 := blk_frozen BK126.out 2
                          have hfz26_3 := blk_frozen BK126.out 3
                          have hfz26_4 := blk_frozen BK126.out 4
                          have hfz26_5 := blk_frozen BK126.out 5
                          have hfz26_6 := blk_frozen BK126.out 6
                          have hfz26_7 := blk_frozen BK126.out 7
                          have hfz26_8 := blk_frozen BK126.out 8
                          go_wp2
                          go_roundg kj17
                          case measure => have := HK1.out; have := HJ4.out; have := HJ17.out; omega
                          case rel => exact ⟨(x5_1), (x6_1), (false), (wrap64 (x8_1 + 1)), (by first | rfl | (simp; done) | (simp [*]; done)), (by first | rfl | (simp; done) | (simp [*]; done)), (by first | rfl | (simp; done) | (simp [*]; done)), (by first | rfl | (simp; done) | (simp [*]; done)), H', ⟨by have := HK1.out; have := HJ4.out; have := HJ17.out; omega⟩, ⟨by repeat (first | (with_reducible first | exact HB.out | apply below_alloc | apply pw_below_drewN | apply below_drew1 | refine below_set ?_ GE126.out) | exact HB.out)⟩⟩
                        · rw [if_neg c25] at H
                          have c25b0 : (((rd_T55 l0 x8_1).f0) == 4) = false := beq_eq_false_iff_ne.mpr c25
                          have c25b1 : (((rd_T55 l0 x8_1).f0) != 4) = true := bne_iff_ne.mpr c25
                          by_cases c27 : ((rd_T55 l0 x8_1).f0) = 5
                          · rw [if_pos c27] at H
                            have c27b0 : (((rd_T55 l0 x8_1).f0) == 5) = true := beq_iff_eq.mpr c27
                            have c27b1 : (((rd_T55 l0 x8_1).f0) != 5) = false := bne_eq_false_iff_eq.mpr c27
                            clear c27
                            have H' := Aside0.mk H
                            clear H
                            have hcz28_0 : wc.cell? ⟨gb126, 0, none⟩ = some (.int .i64 ((rd_T55 l0 x8_1).f0)) := (blk_cell BK126.out 0).trans rfl
                            have hcz28_1 : wc.cell? ⟨gb126, 1, none⟩ = some (.int .i64 ((rd_T55 l0 x8_1).f1)) := (blk_cell BK126.out 1).trans rfl
                            have hcz28_2 : wc.cell? ⟨gb126, 2, none⟩ = some (.int .i64 ((rd_T55 l0 x8_1).f2)) := (blk_cell BK126.out 2).trans rfl
                            have hcz28_3 : wc.cell? ⟨gb126, 3, none⟩ = some (.int .i64 ((rd_T55 l0 x8_1).f3)) := (blk_cell BK126.out 3).trans rfl
                            have hcz28_4 : wc.cell? ⟨gb126, 4, none⟩ = some (.int .i64 ((rd_T55 l0 x8_1).f4)) := (blk_cell BK126.out 4).trans rfl
                            have hcz28_5 : wc.cell? ⟨gb126, 5, none⟩ = some (.int .i64 ((rd_T55 l0 x8_1).f5)) := (blk_cell BK126.out 5).trans rfl
                            have hcz28_6 : wc.cell? ⟨gb126, 6, none⟩ = some (.int .i64 ((rd_T55 l0 x8_1).f6)) := (blk_cell BK126.out 6).trans rfl
                            have hcz28_7 : wc.cell? ⟨gb126, 7, none⟩ = some (.int .i64 ((rd_T55 l0 x8_1).f7)) := (blk_cell BK126.out 7).trans rfl
                            have hcz28_8 : wc.cell? ⟨gb126, 8, none⟩ = some (.int .i64 ((rd_T55 l0 x8_1).f8)) := (blk_cell BK126.out 8).trans rfl
                            have hfz28_0 := blk_frozen BK126.out 0
                            have hfz28_1 := blk_frozen BK126.out 1
                            have hfz28_2 := blk_frozen BK126.out 2
                            have hfz28_3 := blk_frozen BK126.out 3
                            have hfz28_4 := blk_frozen BK126.out 4
                            have hfz28_5 := blk_frozen BK126.out 5
                            have hfz28_6 := blk_frozen BK126.out 6
                            have hfz28_7 := blk_frozen BK126.out 7
                            have hfz28_8 := blk_frozen BK126.out 8
                            go_wp2
                            go_roundg kj17
                            case measure => have := HK1.out; have := HJ4.out; have := HJ17.out; omega
                            case rel => exact ⟨(x5_1), (x6_1), (false), (wrap64 (x8_1 + 1)), (by first | rfl | (simp; done) | (simp [*]; done)), (by first | rfl | (simp; done) | (simp [*]; done)), (by first | rfl | (simp; done) | (simp [*]; done)), (by first | rfl | (simp; done) | (simp [*]; done)), H', ⟨by have := HK1.out; have := HJ4.out; have := HJ17.out; omega⟩, ⟨by repeat (first | (with_reducible first | exact HB.out | apply below_alloc | apply pw_below_drewN | apply below_drew1 | refine below_set ?_ GE126.out) | exact HB.out)⟩⟩
                          · rw [if_neg c27] at H
                            have c27b0 : (((rd_T55 l0 x8_1).f0) == 5) = false := beq_eq_false_iff_ne.mpr c27
                            have c27b1 : (((rd_T55 l0 x8_1).f0) != 5) = true := bne_iff_ne.mpr c27
                            have H' := Aside0.mk H
                            clear H
                            have hcz29_0 : wc.cell? ⟨gb126, 0, none⟩ = some (.int .i64 ((rd_T55 l0 x8_1).f0)) := (blk_cell BK126.out 0).trans rfl
                            have hcz29_1 : wc.cell? ⟨gb126, 1, none⟩ = some (.int .i64 ((rd_T55 l0 x8_1).f1)) := (blk_cell BK126.out 1).trans rfl
                            have hcz29_2 : wc.cell? ⟨gb126, 2, none⟩ = some (.int .i64 ((rd_T55 l0 x8_1).f2)) := (blk_cell BK126.out 2).trans rfl
                            have hcz29_3 : wc.cell? ⟨gb126, 3, none⟩ = some (.int .i64 ((rd_T55 l0 x8_1).f3)) := (blk_cell BK126.out 3).trans rfl
                            have hcz29_4 : wc.cell? ⟨gb126, 4, none⟩ = some (.int .i64 ((rd_T55 l0 x8_1).f4)) := (blk_cell BK126.out 4).trans rfl
                            have hcz29_5 : wc.cell? ⟨gb126, 5, none⟩ = some (.int .i64 ((rd_T55 l0 x8_1).f5)) := (blk_cell BK126.out 5).trans rfl
                            have hcz29_6 : wc.cell? ⟨gb126, 6, none⟩ = some (.int .i64 ((rd_T55 l0 x8_1).f6)) := (blk_cell BK126.out 6).trans rfl
                            have hcz29_7 : wc.cell? ⟨gb126, 7, none⟩ = some (.int .i64 ((rd_T55 l0 x8_1).f7)) := (blk_cell BK126.out 7).trans rfl
                            have hcz29_8 : wc.cell? ⟨gb126, 8, none⟩ = some (.int .i64 ((rd_T55 l0 x8_1).f8)) := (blk_cell BK126.out 8).trans rfl
                            have hfz29_0 := blk_frozen BK126.out 0
                            have hfz29_1 := blk_frozen BK126.out 1
                            have hfz29_2 := blk_frozen BK126.out 2
                            have hfz29_3 := blk_frozen BK126.out 3
                            have hfz29_4 := blk_frozen BK126.out 4
                            have hfz29_5 := blk_frozen BK126.out 5
                            have hfz29_6 := blk_frozen BK126.out 6
                            have hfz29_7 := blk_frozen BK126.out 7
                            have hfz29_8 := blk_frozen BK126.out 8
                            go_wp2
                            go_roundg kj17
                            case measure => have := HK1.out; have := HJ4.out; have := HJ17.out; omega
                            case rel => exact ⟨(x5_1), (x6_1), (x7_1), (wrap64 (x8_1 + 1)), (by first | rfl | (simp; done) | (simp [*]; done)), (by first | rfl | (simp; done) | (simp [*]; done)), (by first | rfl | (simp; done) | (simp [*]; done)), (by first | rfl | (simp; done) | (simp [*]; done)), H', ⟨by have := HK1.out; have := HJ4.out; have := HJ17.out; omega⟩, ⟨by repeat (first | (with_reducible first | exact HB.out | apply below_alloc | apply pw_below_drewN | apply below_drew1 | refine below_set ?_ GE126.out) | exact HB.out)⟩⟩
        · rw [if_neg c4] at H
          exact absurd H (by simp)
      · rw [if_neg c3] at H
        have c3b0 : decide (x8_1 < (l0.length : Int)) = false := decide_eq_false c3
        clear c3
        obtain rfl := Option.some.inj H
        go_wp2
        go_ret
        exact ⟨by first | rfl | (simp [errW_none, errW_some] <;> rfl) | (simp [*, errW_none, errW_some] <;> rfl), by repeat (first | (with_reducible first | exact HB.out | apply below_alloc | apply pw_below_drewN | apply below_drew1) | exact HB.out)⟩

/-! ### impl_isIn: function 32 -/
def impl_isIn.f (a0 : Int) (a1 : Int) (a2 : Int) : Option (Bool) := if a1 ≤ a0 then (some (decide (a0 ≤ a2))) else (some false)
set_option maxHeartbeats 8000000 in
set_option maxRecDepth 100000 in
theorem impl_isIn.calls (a0 : Int) (a1 : Int) (a2 : Int) (r : Bool) (w : World) (h : impl_isIn.f a0 a1 a2 = some r) :
    Calls Try.prog 32 #[.int .i64 a0, .int .i64 a1, .int .i64 a2] w fun e w' => e = .returned (.bool r) ∧ Drawn0 w w' := by
  have H : (if a1 ≤ a0 then (some (decide (a0 ≤ a2))) else (some false)) = some r := h
  clear h
  by_cases c4 : a1 ≤ a0
  · rw [if_pos c4] at H
    have c4b0 : decide (a1 ≤ a0) = true := decide_eq_true c4
    clear c4
    obtain rfl := Option.some.inj H
    go_enter Try.func32, Try.ntmps32
    go_wp2
    go_ret
    exact ⟨by first | rfl | (simp; done) | (simp [*]; done), by repeat (first | exact Drawn0.refl _ | apply Drawn0.step)⟩
  · rw [if_neg c4] at H
    have c4b0 : decide (a1 ≤ a0) = false := decide_eq_false c4
    clear c4
    obtain rfl := Option.some.inj H
    go_enter Try.func32, Try.ntmps32
    go_wp2
    go_ret
    exact ⟨by first | rfl | (simp; done) | (simp [*]; done), by repeat (first | exact Drawn0.refl _ | apply Drawn0.step)⟩

/-! ### impl_isLeaseNote: function 40 -/
def impl_isLeaseNote.f (a0_0 : Int) (a0_1 : Int) (a0_2 : Int) (a0_3 : Int) (a0_4 : Int) (a0_5 : Int) (a0_6 : Int) (a0_7 : Int) (a0_8 : Int) : Option (Bool) := (impl_isIn.f a0_0 1 5).bind fun t129 => (some t129)
set_option maxHeartbeats 8000000 in
set_option maxRecDepth 100000 in
theorem impl_isLeaseNote.calls (a0_0 : Int) (a0_1 : Int) (a0_2 : Int) (a0_3 : Int) (a0_4 : Int) (a0_5 : Int) (a0_6 : Int) (a0_7 : Int) (a0_8 : Int) (r : Bool) (w : World) (h : impl_isLeaseNote.f a0_0 a0_1 a0_2 a0_3 a0_4 a0_5 a0_6 a0_7 a0_8 = some r) :
    Calls Try.prog 40 #[.agg #[.int .i64 a0_0, .int .i64 a0_1, .int .i64 a0_2, .int .i64 a0_3, .int .i64 a0_4, .int .i64 a0_5, .int .i64 a0_6, .int .i64 a0_7, .int .i64 a0_8]] w fun e w' => e = .returned (.bool r) ∧ Below w.heap.size w w' := by
  have hu55 := Try.underlying55
  have HB := Aside0.mk (Below.refl w.heap.size w)
  have H : ((impl_isIn.f a0_0 1 5).bind fun t129 => (some t129)) = some r := h
  clear h
  replace H := Option.bind_eq_some_iff.mp H
  obtain ⟨t129, A20, H⟩ := H
  replace H : (some t129) = some r := H
  have A2 := Aside0.mk A20
  clear A20
  obtain rfl := Option.some.inj H
  go_enter Try.func40, Try.ntmps40
  go_wp2_with (first | ((with_reducible refine gate_dst (N := 1) rfl ?_); refine box_event ?hg (N := 1) ?hd (cs := #[.int .i64 a0_0, .int .i64 a0_1, .int .i64 a0_2, .int .i64 a0_3, .int .i64 a0_4, .int .i64 a0_5, .int .i64 a0_6, .int .i64 a0_7, .int .i64 a0_8]) (t := 55) ?hr ?_; (case hd => rfl); (case hg => rfl); (case hr => first | (go_simp; done) | (go_simp; rfl)); intro gb128 hg w3 hbox hb; have n0_ := Aside0.mk (below_step (by repeat (first | (with_reducible first | exact HB.out | apply below_alloc | apply pw_below_drewN | apply below_drew1) | exact HB.out)) hb); have n1_ := Aside0.mk (hbox); have n2_ := Aside0.mk ((by rw [hg]; exact (below_size (by repeat (first | (with_reducible first | exact HB.out | apply below_alloc | apply pw_below_drewN | apply below_drew1) | exact HB.out))) : w.heap.size ≤ gb128)); have n3_ := Aside0.mk ((by rw [hg]; exact (below_size (by repeat (first | (with_reducible first | exact HB.out | apply below_alloc | apply pw_below_drewN | apply below_drew1) | exact HB.out))) : w.heap.size ≤ gb128)); clear HB; have HB := n0_; have BK128 := n1_; have GW128 := n2_; have GE128 := n3_; clear n0_ n1_ n2_ n3_; clear hb hbox hg; have hcz4_0 : w3.cell? ⟨gb128, 0, none⟩ = some (.int .i64 a0_0) := (blk_cell BK128.out 0).trans rfl; have hcz4_1 : w3.cell? ⟨gb128, 1, none⟩ = some (.int .i64 a0_1) := (blk_cell BK128.out 1).trans rfl; have hcz4_2 : w3.cell? ⟨gb128, 2, none⟩ = some (.int .i64 a0_2) := (blk_cell BK128.out 2).trans rfl; have hcz4_3 : w3.cell? ⟨gb128, 3, none⟩ = some (.int .i64 a0_3) := (blk_cell BK128.out 3).trans rfl; have hcz4_4 : w3.cell? ⟨gb128, 4, none⟩ = some (.int .i64 a0_4) := (blk_cell BK128.out 4).trans rfl; have hcz4_5 : w3.cell? ⟨gb128, 5, none⟩ = some (.int .i64 a0_5) := (blk_cell BK128.out 5).trans rfl; have hcz4_6 : w3.cell? ⟨gb128, 6, none⟩ = some (.int .i64 a0_6) := (blk_cell BK128.out 6).trans rfl; have hcz4_7 : w3.cell? ⟨gb128, 7, none⟩ = some (.int .i64 a0_7) := (blk_cell BK128.out 7).trans rfl; have hcz4_8 : w3.cell? ⟨gb128, 8, none⟩ = some (.int .i64 a0_8) := (blk_cell BK128.out 8).trans rfl; have hfz4_0 := blk_frozen BK128.out 0; have hfz4_1 := blk_frozen BK128.out 1; have hfz4_2 := blk_frozen BK128.out 2; have hfz4_3 := blk_frozen BK128.out 3; have hfz4_4 := blk_frozen BK128.out 4; have hfz4_5 := blk_frozen BK128.out 5; have hfz4_6 := blk_frozen BK128.out 6; have hfz4_7 := blk_frozen BK128.out 7; have hfz4_8 := blk_frozen BK128.out 8) | ((with_reducible refine gate_callee (f := 32) rfl ?_); refine goesL_ (some 5) rfl rfl Try.func32 (by kernel_rfl) rfl #[.int .i64 a0_0, .int .i64 1, .int .i64 5] rfl (by (try simp only [List.map_toArray, List.map_cons, List.map_nil]); first | done | rfl | (simp only [List.length_drop, List.length_take]; rfl)) ?_; (with_reducible refine (impl_isIn.calls a0_0 1 5 t129 _ A2.out).mono ?_); rintro e w' ⟨rfl, ⟨nd, rfl⟩⟩; refine ⟨_, rfl, ?_⟩))
  go_ret
  exact ⟨by first | rfl | (simp [errW_none, errW_some] <;> rfl) | (simp [*, errW_none, errW_some] <;> rfl), by repeat (first | (with_reducible first | exact HB.out | apply below_alloc | apply pw_below_drewN | apply below_drew1 | refine below_set ?_ GE128.out) | exact HB.out)⟩

end Go.Proofs.Ytjeadgnoladnjaa.PFnExactWholeAsk
