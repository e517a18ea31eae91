-- Written by wip/tools/xprint.py.
import Derived.Test.YtgcelhejmpcchaaPFnExactLateOfx0
import Derived.Test.YtgcelhejmpcchaaPFnExactLateOfx7
namespace Go.Proofs.Ytgcelhejmpcchaa.PFnExactLateOf
open Go.RowKit Go.Proofs.YtgcelhejmpcchaaW.PrintWords Go.Proofs.YtgcelhejmpcchaaW.PrintLast Go.Proofs.YtgcelhejmpcchaaW.PrintMore
attribute [local go_sem] max2_int min2_int max_two min_two max_three min_three max_four min_four   -- for this text's walks alone
set_option linter.unusedVariables false
set_option linter.unusedSimpArgs false

/-! ### impl_LateOf: function 16 -/
def impl_LateOf.l0 : Nat → Int → Int → List (S81) → Int → Int → Int → List (List Int) → List (S150) → Int → Bool → List (S101) → List (S79) → List (S126) → List (S63) → Int → Int → Option (Int)
 | 0, _, _, _, _, _, _, _, _, _, _, _, _, _, _, _, _ => none
 | k + 1, x1, x5, x24, x25, x26, x365000, x365001, x365002, x365003, x365004, x365005, x365006, x365007, x365008, x365009, x365010 => if x26 < x25 then (if 0 ≤ x26 then (if x26 < (x24.length : Int) then (if 0 ≤ x1 then (if x1 < (x365006.length : Int) then ((impl_DbAt.f ((rd_T79 x365006 x1).f3) ((rd_T81 x24 x26).f1)).bind fun bt370 => (if ((rd_T81 x24 x26).f2) = 2 then (if (wrap64 (x365000 - ((rd_T81 x24 x26).f4))) > bt370.2.2.2.1 then (impl_LateOf.l0 k x1 (wrap64 (x5 + 1)) x24 x25 (wrap64 (x26 + 1)) x365000 x365001 x365002 x365003 x365004 x365005 x365006 x365007 x365008 x365009 x365010) else (impl_LateOf.l0 k x1 x5 x24 x25 (wrap64 (x26 + 1)) x365000 x365001 x365002 x365003 x365004 x365005 x365006 x365007 x365008 x365009 x365010)) else (impl_LateOf.l0 k x1 x5 x24 x25 (wrap64 (x26 + 1)) x365000 x365001 x365002 x365003 x365004 x365005 x365006 x365007 x365008 x365009 x365010))) else (none)) else (none)) else (none)) else (none)) else (some x5)
def impl_LateOf.f (k : Nat) (a0_0 : Int) (l0_1 : List (List Int)) (l0_2 : List (S150)) (a0_3 : Int) (a0_4 : Bool) (l0_5 : List (S101)) (l0_6 : List (S79)) (l0_7 : List (S126)) (l0_8 : List (S63)) (a0_9 : Int) (a0_10 : Int) (a1 : Int) : Option (Int) := (impl_isIn.f a1 0 (mn 1 (wrap64 ((l0_6.length : Int) - 1)))).bind fun t365 => (if t365 = true then (if 0 ≤ a1 then (if a1 < (l0_6.length : Int) then (impl_LateOf.l0 k a1 0 ((rd_T79 l0_6 a1).f5) (((rd_T79 l0_6 a1).f5).length : Int) 0 a0_0 l0_1 l0_2 a0_3 a0_4 l0_5 l0_6 l0_7 l0_8 a0_9 a0_10) else (none)) else (none)) else (some 0))
theorem impl_LateOf.mono_l : ∀ k, (∀ y0 y1 y2 y3 y4 y5 y6 y7 y8 y9 y10 y11 y12 y13 y14 y15, LeO (impl_LateOf.l0 k y0 y1 y2 y3 y4 y5 y6 y7 y8 y9 y10 y11 y12 y13 y14 y15) (impl_LateOf.l0 (k + 1) y0 y1 y2 y3 y4 y5 y6 y7 y8 y9 y10 y11 y12 y13 y14 y15))
 | 0 => fun _ _ _ _ _ _ _ _ _ _ _ _ _ _ _ _ r h => by simp [impl_LateOf.l0] at h
 | k + 1 => by
  have ih0 := impl_LateOf.mono_l k
  intro y0 y1 y2 y3 y4 y5 y6 y7 y8 y9 y10 y11 y12 y13 y14 y15
  unfold impl_LateOf.l0
  repeat' first
  | (with_reducible exact ih0 _ _ _ _ _ _ _ _ _ _ _ _ _ _ _ _)
  | (with_reducible exact LeO.refl _)
  | (with_reducible exact LeO.none _)
  | (with_reducible refine LeO.ite ?_ ?_)
  | (with_reducible refine LeO.bind ?_ (fun _ => ?_))
  | exact ih0 _ _ _ _ _ _ _ _ _ _ _ _ _ _ _ _
  | exact LeO.none _
  | refine LeO.ite ?_ ?_
  | refine LeO.bind ?_ (fun _ => ?_)
theorem impl_LateOf.mono : ∀ a0 a1 a2 a3 a4 a5 a6 a7 a8 a9 a10 a11 k, LeO (impl_LateOf.f k a0 a1 a2 a3 a4 a5 a6 a7 a8 a9 a10 a11) (impl_LateOf.f (k + 1) a0 a1 a2 a3 a4 a5 a6 a7 a8 a9 a10 a11) := by
 intro a0 a1 a2 a3 a4 a5 a6 a7 a8 a9 a10 a11 k
 have ih0 := impl_LateOf.mono_l k
 unfold impl_LateOf.f
 repeat' first
   | (with_reducible exact ih0 _ _ _ _ _ _ _ _ _ _ _ _ _ _ _ _)
   | (with_reducible exact LeO.refl _)
   | (with_reducible exact LeO.none _)
   | (with_reducible refine LeO.ite ?_ ?_)
   | (with_reducible refine LeO.bind ?_ (fun _ => ?_))
   | exact ih0 _ _ _ _ _ _ _ _ _ _ _ _ _ _ _ _
   | exact LeO.none _
   | refine LeO.ite ?_ ?_
   | refine LeO.bind ?_ (fun _ => ?_)
def impl_LateOf.T7 : Bool × List (List Nat × List Nat) := (true, [([], []), ([0], [0]), ([], []), ([1, 2], [1, 2]), ([3], [3]), ([4], [4]), ([], []), ([6], [6]), ([5, 7], [5, 7]), ([8], [8]), ([9], [9]), ([9], [9]), ([], []), ([12, 10, 8, 0, 1, 2, 3, 4, 5, 6, 7, 8, 9, 10, 12], [10, 12]), ([11, 13, 0, 1, 2, 3, 4, 5, 6, 7, 8, 9, 10, 11, 12, 13], [11])])
def impl_LateOf.B7 : List Nat := [0, 1, 0, 7, 15, 31, 0, 64, 255, 511, 1023, 1023, 0, 6143, 16383]
theorem impl_LateOf.tab7 : rtab .any (opsOf Try.f16 7) = impl_LateOf.T7 := by kernel_rfl
theorem impl_LateOf.bits7 : waitsOk impl_LateOf.T7.2 impl_LateOf.B7 = true := by kernel_rfl
set_option maxHeartbeats 8000000 in
set_option maxRecDepth 100000 in
theorem impl_LateOf.calls (k : Nat) (a0_0 : Int) (A0_1 : Option Addr) (c0_1 : Nat) (l0_1 : List (List Int)) (A0_2 : Option Addr) (c0_2 : Nat) (l0_2 : List (S150)) (a0_3 : Int) (a0_4 : Bool) (A0_5 : Option Addr) (c0_5 : Nat) (l0_5 : List (S101)) (A0_6 : Option Addr) (c0_6 : Nat) (l0_6 : List (S79)) (A0_7 : Option Addr) (c0_7 : Nat) (l0_7 : List (S126)) (A0_8 : Option Addr) (c0_8 : Nat) (l0_8 : List (S63)) (a0_9 : Int) (a0_10 : Int) (a1 : Int) (r : Int) (w : World) (hr0_1 : Kd.C (Kd.slice 5 (Kd.int .u8)) w A0_1 l0_1.length l0_1) (hc0_1 : l0_1.length ≤ c0_1) (hr0_2 : Kd.C k150 w A0_2 l0_2.length l0_2) (hc0_2 : l0_2.length ≤ c0_2) (hr0_5 : Kd.C k101 w A0_5 l0_5.length l0_5) (hc0_5 : l0_5.length ≤ c0_5) (hr0_6 : Kd.C k79 w A0_6 l0_6.length l0_6) (hc0_6 : l0_6.length ≤ c0_6) (hr0_7 : Kd.C k126 w A0_7 l0_7.length l0_7) (hc0_7 : l0_7.length ≤ c0_7) (hr0_8 : Kd.C k63 w A0_8 l0_8.length l0_8) (hc0_8 : l0_8.length ≤ c0_8) (h : impl_LateOf.f k a0_0 l0_1 l0_2 a0_3 a0_4 l0_5 l0_6 l0_7 l0_8 a0_9 a0_10 a1 = some r) :
  Calls Try.prog 16 #[.agg #[.int .i64 a0_0, .slice A0_1 l0_1.length c0_1, .slice A0_2 l0_2.length c0_2, .int .i64 a0_3, .bool a0_4, .slice A0_5 l0_5.length c0_5, .slice A0_6 l0_6.length c0_6, .slice A0_7 l0_7.length c0_7, .slice A0_8 l0_8.length c0_8, .int .i64 a0_9, .int .i64 a0_10], .int .i64 a1] w fun e w' => e = .returned (.int .i64 r) ∧ Below w.heap.size w w' := by
 have hu47 := Try.underlying47
 have hu81 := Try.underlying81
 have hu83 := Try.underlying83
 have HR0_1 := Aside0.mk hr0_1
 have HC0_1 := Aside0.mk hc0_1
 clear hr0_1 hc0_1
 have HR0_2 := Aside0.mk hr0_2
 have HC0_2 := Aside0.mk hc0_2
 clear hr0_2 hc0_2
 have HR0_5 := Aside0.mk hr0_5
 have HC0_5 := Aside0.mk hc0_5
 clear hr0_5 hc0_5
 have HR0_6 := Aside0.mk hr0_6
 have HC0_6 := Aside0.mk hc0_6
 clear hr0_6 hc0_6
 have HR0_7 := Aside0.mk hr0_7
 have HC0_7 := Aside0.mk hc0_7
 clear hr0_7 hc0_7
 have HR0_8 := Aside0.mk hr0_8
 have HC0_8 := Aside0.mk hc0_8
 clear hr0_8 hc0_8
 have HB := Aside0.mk (Below.refl w.heap.size w)
 have H : ((impl_isIn.f a1 0 (mn 1 (wrap64 ((l0_6.length : Int) - 1)))).bind fun t365 => (if t365 = true then (if 0 ≤ a1 then (if a1 < (l0_6.length : Int) then (impl_LateOf.l0 k a1 0 ((rd_T79 l0_6 a1).f5) (((rd_T79 l0_6 a1).f5).length : Int) 0 a0_0 l0_1 l0_2 a0_3 a0_4 l0_5 l0_6 l0_7 l0_8 a0_9 a0_10) else (none)) else (none)) else (some 0))) = some r := h
 clear h
 obtain ⟨ji3, hji3⟩ : ∃ j_ : Int, (mn 1 (wrap64 ((l0_6.length : Int) - 1))) = j_ := ⟨_, rfl⟩
 replace H : ((impl_isIn.f a1 0 (ji3)).bind fun t365 => (if t365 = true then (if 0 ≤ a1 then (if a1 < (l0_6.length : Int) then (impl_LateOf.l0 k a1 0 ((rd_T79 l0_6 a1).f5) (((rd_T79 l0_6 a1).f5).length : Int) 0 a0_0 l0_1 l0_2 a0_3 a0_4 l0_5 l0_6 l0_7 l0_8 a0_9 a0_10) else (none)) else (none)) else (some 0))) = some r := by first | (rw [hji3] at H; exact H) | (simp only [hji3] at H ⊢; exact H)
 (try (have hji3h : ji3 ≤ 1 := by (rw [← hji3]; unfold mn; (repeat' split) <;> omega)))
 (try (have hji3g : ji3 ≤ 64 := by omega))
 have hji3_ : (if (wrap64 ((l0_6.length : Int) - 1)) < 1 then (wrap64 ((l0_6.length : Int) - 1)) else 1) = ji3 := hji3
 replace H := Option.bind_eq_some_iff.mp H
 obtain ⟨t365, A40, H⟩ := H
 (try dsimp only at H)
 have A4 := Aside0.mk A40
 clear A40
 by_cases c5 : t365 = true
 rotate_left
 ·
  replace c5 := Bool.eq_false_iff.mpr c5
  subst c5
  have H1 : (some 0) = some r := by rw [if_neg (show ¬ (false = true) by decide)] at H; exact H
  clear H
  have H := H1
  clear H1
  obtain rfl := Option.some.inj H
  go_enter Try.func16, Try.ntmps16
  go_wp2_with (first | ((with_reducible refine gate_dst (N := 2) rfl ?_); refine box_event ?hg (N := 2) ?hd (cs := #[.int .i64 a0_0, .slice A0_1 l0_1.length c0_1, .slice A0_2 l0_2.length c0_2, .int .i64 a0_3, .bool a0_4, .slice A0_5 l0_5.length c0_5, .slice A0_6 l0_6.length c0_6, .slice A0_7 l0_7.length c0_7, .slice A0_8 l0_8.length c0_8, .int .i64 a0_9, .int .i64 a0_10]) (t := 47) ?hr ?_; (case hd => rfl); (case hg => rfl); (case hr => first | (go_simp; done) | (go_simp; rfl)); intro gb364 hg w69 hbox hb; have q_ := xq hb (xb HB.out); have n0_ := Aside0.mk (below_step q_ hb); have n1_ := Aside0.mk (hbox); have n2_ := Aside0.mk ((by rw [hg]; exact (below_size q_) : w.heap.size ≤ gb364)); have n3_ := Aside0.mk ((by rw [hg]; exact (below_size q_) : w.heap.size ≤ gb364)); clear HB; have HB := n0_; have BK364 := n1_; have GW364 := n2_; have GE364 := n3_; clear n0_ n1_ n2_ n3_; clear hb hbox hg; obtain ⟨hcz70_0, hcz70_1, hcz70_2, hcz70_3, hcz70_4, hcz70_5, hcz70_6, hcz70_7, hcz70_8, hcz70_9, hcz70_10⟩ := xbk11 BK364.out; obtain ⟨hfz70_0, hfz70_1, hfz70_2, hfz70_3, hfz70_4, hfz70_5, hfz70_6, hfz70_7, hfz70_8, hfz70_9, hfz70_10⟩ := xbf11 BK364.out) | ((with_reducible refine gate_callee (f := 43) rfl ?_); refine goesL_ (some 16) rfl rfl Try.func43 (by kernel_rfl) rfl #[.int .i64 a1, .int .i64 0, .int .i64 ji3] rfl (by (try simp only [List.map_toArray, List.map_cons, List.map_nil]); first | done | (simp only [hji3]; rfl) | rfl | (simp only [List.length_drop, List.length_take]; rfl)) ?_; (with_reducible refine (impl_isIn.calls a1 0 ji3 false _ A4.out).mono ?_); rintro e w' ⟨rfl, ⟨nd, rfl⟩⟩; refine ⟨_, rfl, ?_⟩))
  go_ret
  exact ⟨by first | rfl | (simp [errW_none, errW_some] <;> rfl) | (simp only [← hji3]; first | rfl | (simp [errW_none, errW_some] <;> rfl)) | (simp [*, errW_none, errW_some] <;> rfl), by repeat (first | (with_reducible first | exact HB.out | apply below_alloc | apply pw_below_drewN | apply below_drew1 | refine below_set ?_ GE364.out) | exact HB.out)⟩
 subst c5
 have H1 : (if 0 ≤ a1 then (if a1 < (l0_6.length : Int) then (impl_LateOf.l0 k a1 0 ((rd_T79 l0_6 a1).f5) (((rd_T79 l0_6 a1).f5).length : Int) 0 a0_0 l0_1 l0_2 a0_3 a0_4 l0_5 l0_6 l0_7 l0_8 a0_9 a0_10) else (none)) else (none)) = some r := by rw [if_pos rfl] at H; exact H
 clear H
 have H := H1
 clear H1
 by_cases c6 : 0 ≤ a1
 rotate_left
 ·
  rw [if_neg c6] at H
  exact absurd H (by simp)
 rw [if_pos c6] at H
 have c6b0 : decide (0 ≤ a1) = true := decide_eq_true c6
 clear c6
 by_cases c7 : a1 < (l0_6.length : Int)
 rotate_left
 ·
  rw [if_neg c7] at H
  exact absurd H (by simp)
 rw [if_pos c7] at H
 have c7b0 : decide (a1 < (l0_6.length : Int)) = true := decide_eq_true c7
 clear c7
 have H' := Aside0.mk H
 clear H
 go_enter Try.func16, Try.ntmps16
 go_wp2_with (first | ((with_reducible refine gate_dst (N := 2) rfl ?_); refine box_event ?hg (N := 2) ?hd (cs := #[.int .i64 a0_0, .slice A0_1 l0_1.length c0_1, .slice A0_2 l0_2.length c0_2, .int .i64 a0_3, .bool a0_4, .slice A0_5 l0_5.length c0_5, .slice A0_6 l0_6.length c0_6, .slice A0_7 l0_7.length c0_7, .slice A0_8 l0_8.length c0_8, .int .i64 a0_9, .int .i64 a0_10]) (t := 47) ?hr ?_; (case hd => rfl); (case hg => rfl); (case hr => first | (go_simp; done) | (go_simp; rfl)); intro gb364 hg w8 hbox hb; have q_ := xq hb (xb HB.out); have n0_ := Aside0.mk (below_step q_ hb); have n1_ := Aside0.mk (hbox); have n2_ := Aside0.mk ((by rw [hg]; exact (below_size q_) : w.heap.size ≤ gb364)); have n3_ := Aside0.mk ((by rw [hg]; exact (below_size q_) : w.heap.size ≤ gb364)); clear HB; have HB := n0_; have BK364 := n1_; have GW364 := n2_; have GE364 := n3_; clear n0_ n1_ n2_ n3_; clear hb hbox hg; obtain ⟨hcz9_0, hcz9_1, hcz9_2, hcz9_3, hcz9_4, hcz9_5, hcz9_6, hcz9_7, hcz9_8, hcz9_9, hcz9_10⟩ := xbk11 BK364.out; obtain ⟨hfz9_0, hfz9_1, hfz9_2, hfz9_3, hfz9_4, hfz9_5, hfz9_6, hfz9_7, hfz9_8, hfz9_9, hfz9_10⟩ := xbf11 BK364.out) | ((with_reducible refine gate_callee (f := 43) rfl ?_); refine goesL_ (some 16) rfl rfl Try.func43 (by kernel_rfl) rfl #[.int .i64 a1, .int .i64 0, .int .i64 ji3] rfl (by (try simp only [List.map_toArray, List.map_cons, List.map_nil]); first | done | (simp only [hji3]; rfl) | rfl | (simp only [List.length_drop, List.length_take]; rfl)) ?_; (with_reducible refine (impl_isIn.calls a1 0 ji3 true _ A4.out).mono ?_); rintro e w' ⟨rfl, ⟨nd, rfl⟩⟩; refine ⟨_, rfl, ?_⟩; have p366 : 0 ≤ (a1 : Int) := of_decide_eq_true (by first | (with_reducible assumption) | assumption); have q366 : a1 < (l0_6.length : Int) := of_decide_eq_true (by first | (with_reducible assumption) | assumption); obtain ⟨ad366, A366_3, c366_3, A366_5, c366_5, A366_6, c366_6, e366, hx366_0, hx366_1, hx366_2, hx366_3, hx366_4, hx366_5, hx366_6, hx366_7, hx366_8, hx366_9, hx366_10, hx366_11, hl366_3, hi366_3, hl366_5, hi366_5, hl366_6, hi366_6⟩ := at_T79 HR0_6.out a1 p366 q366; cases e366; replace hx366_0 := pw_cell_below HB.out hx366_0; replace hx366_1 := pw_cell_below HB.out hx366_1; replace hx366_2 := pw_cell_below HB.out hx366_2; replace hx366_3 := pw_cell_below HB.out hx366_3; replace hx366_4 := pw_cell_below HB.out hx366_4; replace hx366_5 := pw_cell_below HB.out hx366_5; replace hx366_6 := pw_cell_below HB.out hx366_6; replace hx366_7 := pw_cell_below HB.out hx366_7; replace hx366_8 := pw_cell_below HB.out hx366_8; replace hx366_9 := pw_cell_below HB.out hx366_9; replace hx366_10 := pw_cell_below HB.out hx366_10; replace hx366_11 := pw_cell_below HB.out hx366_11; have HR366_3 := Aside0.mk hi366_3; have HC366_3 := Aside0.mk hl366_3; clear hi366_3 hl366_3; have HR366_5 := Aside0.mk hi366_5; have HC366_5 := Aside0.mk hl366_5; clear hi366_5 hl366_5; have HR366_6 := Aside0.mk hi366_6; have HC366_6 := Aside0.mk hl366_6; clear hi366_6 hl366_6; replace p366 := eq_true p366; replace q366 := eq_true q366))
 go_loopg [5, 26] k (fun kq v5 v26 w' => ∃ (x5_1 : Int) (x26_1 : Int), v5 = .int .i64 x5_1 ∧ v26 = .int .i64 x26_1 ∧ Aside0 (impl_LateOf.l0 kq a1 x5_1 ((rd_T79 l0_6 a1).f5) (((rd_T79 l0_6 a1).f5).length : Int) x26_1 a0_0 l0_1 l0_2 a0_3 a0_4 l0_5 l0_6 l0_7 l0_8 a0_9 a0_10 = some r) ∧ Aside0 (kq ≤ k) ∧ Aside0 (w'.heap[gb364]? = some (.cells #[.int .i64 a0_0, (.slice A0_1 l0_1.length c0_1), (.slice A0_2 l0_2.length c0_2), .int .i64 a0_3, .bool a0_4, (.slice A0_5 l0_5.length c0_5), (.slice (some ad366) l0_6.length c0_6), (.slice A0_7 l0_7.length c0_7), (.slice A0_8 l0_8.length c0_8), .int .i64 a0_9, .int .i64 a0_10] 47 (0, 0))) ∧ Aside0 (Below w.heap.size w w'))
 case atStart => exact ⟨(0), (0), (by first | rfl | (simp; done) | (simp [*]; done)), (by first | rfl | (simp; done) | (simp [*]; done)), H', ⟨Nat.le_refl _⟩, ⟨xg BK364.out⟩, ⟨by repeat (first | (with_reducible first | exact HB.out | apply below_alloc | apply pw_below_drewN | apply below_drew1 | refine below_set ?_ GE364.out) | exact HB.out)⟩⟩
 case round =>
  clear H'
  try clear c1
  try clear p2
  try clear c3
  try clear p3
  try clear q3
  try clear hx3
  try clear c4
  try clear c5
  try clear c6
  try clear c6b0
  try clear p6
  try clear c7
  try clear c7b0
  try clear hcz9_0
  try clear hcz9_1
  try clear hcz9_10
  try clear hcz9_2
  try clear hcz9_3
  try clear hcz9_4
  try clear hcz9_5
  try clear hcz9_6
  try clear hcz9_7
  try clear hcz9_8
  try clear hcz9_9
  try clear hfz9_0
  try clear hfz9_1
  try clear hfz9_10
  try clear hfz9_2
  try clear hfz9_3
  try clear hfz9_4
  try clear hfz9_5
  try clear hfz9_6
  try clear hfz9_7
  try clear hfz9_8
  try clear hfz9_9
  try clear hx366_0
  try clear hx366_1
  try clear hx366_10
  try clear hx366_11
  try clear hx366_2
  try clear hx366_3
  try clear hx366_4
  try clear hx366_5
  try clear hx366_6
  try clear hx366_7
  try clear hx366_8
  try clear hx366_9
  try clear p366
  try clear q366
  obtain ⟨x5_1, x26_1, rfl, rfl, HA, HK1, BK364, HB⟩ := hrel
  cases gk with
  | zero => exact absurd HA.out (by simp [impl_LateOf.l0])
  | succ k1 =>
   have H := HA.out
   clear HA
   simp only [impl_LateOf.l0] at H
   by_cases c10 : x26_1 < (((rd_T79 l0_6 a1).f5).length : Int)
   rotate_left
   ·
    rw [if_neg c10] at H
    have c10b0 : decide (x26_1 < (((rd_T79 l0_6 a1).f5).length : Int)) = false := decide_eq_false c10
    clear c10
    obtain rfl := Option.some.inj H
    go_wp2
    go_ret
    exact ⟨by first | rfl | (simp [errW_none, errW_some] <;> rfl) | (simp only [← hji3]; first | rfl | (simp [errW_none, errW_some] <;> rfl)) | (simp [*, errW_none, errW_some] <;> rfl), by repeat (first | (with_reducible first | exact HB.out | apply below_alloc | apply pw_below_drewN | apply below_drew1 | refine below_set ?_ GE364.out) | exact HB.out)⟩
   rw [if_pos c10] at H
   have c10b0 : decide (x26_1 < (((rd_T79 l0_6 a1).f5).length : Int)) = true := decide_eq_true c10
   clear c10
   by_cases c11 : 0 ≤ x26_1
   rotate_left
   ·
    rw [if_neg c11] at H
    exact absurd H (by simp)
   rw [if_pos c11] at H
   have c11b0 : decide (0 ≤ x26_1) = true := decide_eq_true c11
   clear c11
   by_cases c12 : x26_1 < (((rd_T79 l0_6 a1).f5).length : Int)
   rotate_left
   ·
    rw [if_neg c12] at H
    exact absurd H (by simp)
   rw [if_pos c12] at H
   have c12b0 : decide (x26_1 < (((rd_T79 l0_6 a1).f5).length : Int)) = true := decide_eq_true c12
   clear c12
   by_cases c13 : 0 ≤ a1
   rotate_left
   ·
    rw [if_neg c13] at H
    exact absurd H (by simp)
   rw [if_pos c13] at H
   have c13b0 : decide (0 ≤ a1) = true := decide_eq_true c13
   clear c13
   by_cases c14 : a1 < (l0_6.length : Int)
   rotate_left
   ·
    rw [if_neg c14] at H
    exact absurd H (by simp)
   rw [if_pos c14] at H
   have c14b0 : decide (a1 < (l0_6.length : Int)) = true := decide_eq_true c14
   clear c14
   replace H := Option.bind_eq_some_iff.mp H
   obtain ⟨⟨t370, t371, t372, t373, t374, t375⟩, A150, H⟩ := H
   (try dsimp only at H)
   have A15 := Aside0.mk A150
   clear A150
   have HX_ := Aside0.mk H
   clear H
   have p367 : 0 ≤ (x26_1 : Int) := of_decide_eq_true (by first | (with_reducible assumption) | assumption)
   have q367 : x26_1 < (((rd_T79 l0_6 a1).f5).length : Int) := of_decide_eq_true (by first | (with_reducible assumption) | assumption)
   obtain ⟨ad367, e367, hx367_0, hx367_1, hx367_2, hx367_3, hx367_4, hx367_5, hx367_6, hx367_7⟩ := at_T81 HR366_5.out x26_1 p367 q367
   cases e367
   have q_ := xdn8 HB.out hx367_0 hx367_1 hx367_2 hx367_3 hx367_4 hx367_5 hx367_6 hx367_7
   clear hx367_0 hx367_1 hx367_2 hx367_3 hx367_4 hx367_5 hx367_6 hx367_7
   obtain ⟨hx367_0, hx367_1, hx367_2, hx367_3, hx367_4, hx367_5, hx367_6, hx367_7⟩ := q_
   replace p367 := eq_true p367
   replace q367 := eq_true q367
   try go_wp2_with (first | ((with_reducible refine gate_dst (N := 7) rfl ?_); refine box_event ?hg (N := 7) ?hd (cs := #[.int .i64 0, .string (⟨#[]⟩ : ByteArray), .int .i64 0, .int .i64 0, .int .i64 0, .string (⟨#[]⟩ : ByteArray), .int .i64 0, .int .i64 0]) (t := 81) ?hr ?_; (case hd => rfl); (case hg => rfl); (case hr => first | (go_simp; done) | (go_simp; rfl)); intro gb368 hg w18 hbox hb; have q_ := xq hb (xb HB.out); have n0_ := Aside0.mk (blk_below (g := gb364) (xg BK364.out) hb); have n1_ := Aside0.mk (below_step q_ hb); have n2_ := Aside0.mk (hbox); have n3_ := Aside0.mk ((by rw [hg]; exact (below_size q_) : w.heap.size ≤ gb368)); have n4_ := Aside0.mk ((by rw [hg]; exact (below_size q_) : w.heap.size ≤ gb368)); have n5_ := Aside0.mk (xlt (g := gb364) hg (xg BK364.out)); have n6_ := Aside0.mk n5_.out.symm; clear BK364; clear HB; have BK364 := n0_; have HB := n1_; have BK368 := n2_; have GW368 := n3_; have GE368 := n4_; have NB364_368 := n5_; have NB368_364 := n6_; clear n0_ n1_ n2_ n3_ n4_ n5_ n6_; clear hb hbox hg; have hnb19 := NB368_364.out; have hnc19 := NB364_368.out; obtain ⟨hcz20_0, hcz20_1, hcz20_2, hcz20_3, hcz20_4, hcz20_5, hcz20_6, hcz20_7⟩ := xbk8 BK368.out; obtain ⟨hfz20_0, hfz20_1, hfz20_2, hfz20_3, hfz20_4, hfz20_5, hfz20_6, hfz20_7⟩ := xbf8 BK368.out))
   have n0_ : Aside0 (((((((((w18.setCell ⟨gb368, 0, none⟩ (.int .i64 ((rd_T81 ((rd_T79 l0_6 a1).f5) x26_1).f0))).setCell ⟨gb368, 1, none⟩ (.string ((rd_T81 ((rd_T79 l0_6 a1).f5) x26_1).f1))).setCell ⟨gb368, 2, none⟩ (.int .i64 ((rd_T81 ((rd_T79 l0_6 a1).f5) x26_1).f2))).setCell ⟨gb368, 3, none⟩ (.int .i64 ((rd_T81 ((rd_T79 l0_6 a1).f5) x26_1).f3))).setCell ⟨gb368, 4, none⟩ (.int .i64 ((rd_T81 ((rd_T79 l0_6 a1).f5) x26_1).f4))).setCell ⟨gb368, 5, none⟩ (.string ((rd_T81 ((rd_T79 l0_6 a1).f5) x26_1).f5))).setCell ⟨gb368, 6, none⟩ (.int .i64 ((rd_T81 ((rd_T79 l0_6 a1).f5) x26_1).f6))).setCell ⟨gb368, 7, none⟩ (.int .i64 ((rd_T81 ((rd_T79 l0_6 a1).f5) x26_1).f7))).heap[gb364]? = some (.cells #[.int .i64 a0_0, .slice A0_1 l0_1.length c0_1, .slice A0_2 l0_2.length c0_2, .int .i64 a0_3, .bool a0_4, .slice A0_5 l0_5.length c0_5, .slice (some ad366) l0_6.length c0_6, .slice A0_7 l0_7.length c0_7, .slice A0_8 l0_8.length c0_8, .int .i64 a0_9, .int .i64 a0_10] 47 (0, 0))) := ⟨by (with_reducible repeat (first | refine blk_far ?_ NB364_368.out _ | refine blk_drewN ?_ _ | refine blk_drew ?_ | refine blk_alloc ?_ _)); (with_reducible repeat (first | refine blk_drewN ?_ _ | refine blk_drew ?_ | refine blk_alloc ?_ _)); exact BK364.out⟩
   have n1_ : Aside0 (((((((((w18.setCell ⟨gb368, 0, none⟩ (.int .i64 ((rd_T81 ((rd_T79 l0_6 a1).f5) x26_1).f0))).setCell ⟨gb368, 1, none⟩ (.string ((rd_T81 ((rd_T79 l0_6 a1).f5) x26_1).f1))).setCell ⟨gb368, 2, none⟩ (.int .i64 ((rd_T81 ((rd_T79 l0_6 a1).f5) x26_1).f2))).setCell ⟨gb368, 3, none⟩ (.int .i64 ((rd_T81 ((rd_T79 l0_6 a1).f5) x26_1).f3))).setCell ⟨gb368, 4, none⟩ (.int .i64 ((rd_T81 ((rd_T79 l0_6 a1).f5) x26_1).f4))).setCell ⟨gb368, 5, none⟩ (.string ((rd_T81 ((rd_T79 l0_6 a1).f5) x26_1).f5))).setCell ⟨gb368, 6, none⟩ (.int .i64 ((rd_T81 ((rd_T79 l0_6 a1).f5) x26_1).f6))).setCell ⟨gb368, 7, none⟩ (.int .i64 ((rd_T81 ((rd_T79 l0_6 a1).f5) x26_1).f7))).heap[gb368]? = some (.cells #[.int .i64 ((rd_T81 ((rd_T79 l0_6 a1).f5) x26_1).f0), .string ((rd_T81 ((rd_T79 l0_6 a1).f5) x26_1).f1), .int .i64 ((rd_T81 ((rd_T79 l0_6 a1).f5) x26_1).f2), .int .i64 ((rd_T81 ((rd_T79 l0_6 a1).f5) x26_1).f3), .int .i64 ((rd_T81 ((rd_T79 l0_6 a1).f5) x26_1).f4), .string ((rd_T81 ((rd_T79 l0_6 a1).f5) x26_1).f5), .int .i64 ((rd_T81 ((rd_T79 l0_6 a1).f5) x26_1).f6), .int .i64 ((rd_T81 ((rd_T79 l0_6 a1).f5) x26_1).f7)] 81 (0, 0))) := ⟨by (refine xput8 (cs := ?cs1) ?h1 ?e1; (case h1 => ((with_reducible repeat (first | refine blk_drewN ?_ _ | refine blk_drew ?_ | refine blk_alloc ?_ _)); exact BK368.out)); simp only [List.setIfInBounds_toArray, List.set_cons_zero, List.set_cons_succ])⟩
   have n2_ : Aside0 (Below w.heap.size w ((((((((w18.setCell ⟨gb368, 0, none⟩ (.int .i64 ((rd_T81 ((rd_T79 l0_6 a1).f5) x26_1).f0))).setCell ⟨gb368, 1, none⟩ (.string ((rd_T81 ((rd_T79 l0_6 a1).f5) x26_1).f1))).setCell ⟨gb368, 2, none⟩ (.int .i64 ((rd_T81 ((rd_T79 l0_6 a1).f5) x26_1).f2))).setCell ⟨gb368, 3, none⟩ (.int .i64 ((rd_T81 ((rd_T79 l0_6 a1).f5) x26_1).f3))).setCell ⟨gb368, 4, none⟩ (.int .i64 ((rd_T81 ((rd_T79 l0_6 a1).f5) x26_1).f4))).setCell ⟨gb368, 5, none⟩ (.string ((rd_T81 ((rd_T79 l0_6 a1).f5) x26_1).f5))).setCell ⟨gb368, 6, none⟩ (.int .i64 ((rd_T81 ((rd_T79 l0_6 a1).f5) x26_1).f6))).setCell ⟨gb368, 7, none⟩ (.int .i64 ((rd_T81 ((rd_T79 l0_6 a1).f5) x26_1).f7)))) := ⟨by repeat (first | (with_reducible first | exact HB.out | apply below_alloc | apply pw_below_drewN | apply below_drew1 | refine below_set ?_ GE364.out | refine below_set ?_ GE368.out) | exact HB.out)⟩
   (try clear BK364)
   (try clear BK368)
   (try clear HB)
   generalize ((((((((w18.setCell ⟨gb368, 0, none⟩ (.int .i64 ((rd_T81 ((rd_T79 l0_6 a1).f5) x26_1).f0))).setCell ⟨gb368, 1, none⟩ (.string ((rd_T81 ((rd_T79 l0_6 a1).f5) x26_1).f1))).setCell ⟨gb368, 2, none⟩ (.int .i64 ((rd_T81 ((rd_T79 l0_6 a1).f5) x26_1).f2))).setCell ⟨gb368, 3, none⟩ (.int .i64 ((rd_T81 ((rd_T79 l0_6 a1).f5) x26_1).f3))).setCell ⟨gb368, 4, none⟩ (.int .i64 ((rd_T81 ((rd_T79 l0_6 a1).f5) x26_1).f4))).setCell ⟨gb368, 5, none⟩ (.string ((rd_T81 ((rd_T79 l0_6 a1).f5) x26_1).f5))).setCell ⟨gb368, 6, none⟩ (.int .i64 ((rd_T81 ((rd_T79 l0_6 a1).f5) x26_1).f6))).setCell ⟨gb368, 7, none⟩ (.int .i64 ((rd_T81 ((rd_T79 l0_6 a1).f5) x26_1).f7))) = w21 at n0_ n1_ n2_ ⊢
   have BK364 := n0_
   have BK368 := n1_
   have HB := n2_
   clear n0_ n1_ n2_
   have n0_ := Aside0.mk (blk_drew BK364.out)
   have n1_ := Aside0.mk (blk_drew BK368.out)
   have n2_ := Aside0.mk (below_drew1 HB.out)
   clear BK364
   clear BK368
   clear HB
   have BK364 := n0_
   have BK368 := n1_
   have HB := n2_
   clear n0_ n1_ n2_
   have p369 : 0 ≤ (a1 : Int) := of_decide_eq_true (by first | (with_reducible assumption) | assumption)
   have q369 : a1 < (l0_6.length : Int) := of_decide_eq_true (by first | (with_reducible assumption) | assumption)
   obtain ⟨ad369, A369_3, c369_3, A369_5, c369_5, A369_6, c369_6, e369, hx369_0, hx369_1, hx369_2, hx369_3, hx369_4, hx369_5, hx369_6, hx369_7, hx369_8, hx369_9, hx369_10, hx369_11, hl369_3, hi369_3, hl369_5, hi369_5, hl369_6, hi369_6⟩ := at_T79 HR0_6.out a1 p369 q369
   have hw369_11 := hx369_11
   have hw369_10 := hx369_10
   have hw369_9 := hx369_9
   have hw369_8 := hx369_8
   have hw369_7 := hx369_7
   have hw369_6 := hx369_6
   have hw369_5 := hx369_5
   have hw369_4 := hx369_4
   have hw369_3 := hx369_3
   have hw369_2 := hx369_2
   have hw369_1 := hx369_1
   have hw369_0 := hx369_0
   obtain rfl : ad366 = ad369 := (by injection e369)
   have q_ := xdn12 HB.out hx369_0 hx369_1 hx369_2 hx369_3 hx369_4 hx369_5 hx369_6 hx369_7 hx369_8 hx369_9 hx369_10 hx369_11
   clear hx369_0 hx369_1 hx369_2 hx369_3 hx369_4 hx369_5 hx369_6 hx369_7 hx369_8 hx369_9 hx369_10 hx369_11
   obtain ⟨hx369_0, hx369_1, hx369_2, hx369_3, hx369_4, hx369_5, hx369_6, hx369_7, hx369_8, hx369_9, hx369_10, hx369_11⟩ := q_
   have HR369_3 := Aside0.mk hi369_3
   have HC369_3 := Aside0.mk hl369_3
   clear hi369_3 hl369_3
   have HR369_5 := Aside0.mk hi369_5
   have HC369_5 := Aside0.mk hl369_5
   clear hi369_5 hl369_5
   have HR369_6 := Aside0.mk hi369_6
   have HC369_6 := Aside0.mk hl369_6
   clear hi369_6 hl369_6
   replace p369 := eq_true p369
   replace q369 := eq_true q369
   refine start_ (n := 15) (S := fun w' => w'.cell? ⟨gb364, 0, none⟩ = some (.int .i64 a0_0) ∧ w'.cell? ⟨gb364, 1, none⟩ = some (.slice A0_1 l0_1.length c0_1) ∧ w'.cell? ⟨gb364, 2, none⟩ = some (.slice A0_2 l0_2.length c0_2) ∧ w'.cell? ⟨gb364, 3, none⟩ = some (.int .i64 a0_3) ∧ w'.cell? ⟨gb364, 4, none⟩ = some (.bool a0_4) ∧ w'.cell? ⟨gb364, 5, none⟩ = some (.slice A0_5 l0_5.length c0_5) ∧ w'.cell? ⟨gb364, 6, none⟩ = some (.slice (some ad366) l0_6.length c0_6) ∧ w'.cell? ⟨gb364, 7, none⟩ = some (.slice A0_7 l0_7.length c0_7) ∧ w'.cell? ⟨gb364, 8, none⟩ = some (.slice A0_8 l0_8.length c0_8) ∧ w'.cell? ⟨gb364, 9, none⟩ = some (.int .i64 a0_9) ∧ w'.cell? ⟨gb364, 10, none⟩ = some (.int .i64 a0_10) ∧ w'.cell? ⟨gb368, 0, none⟩ = some (.int .i64 ((rd_T81 ((rd_T79 l0_6 a1).f5) x26_1).f0)) ∧ w'.cell? ⟨gb368, 1, none⟩ = some (.string ((rd_T81 ((rd_T79 l0_6 a1).f5) x26_1).f1)) ∧ w'.cell? ⟨gb368, 2, none⟩ = some (.int .i64 ((rd_T81 ((rd_T79 l0_6 a1).f5) x26_1).f2)) ∧ w'.cell? ⟨gb368, 3, none⟩ = some (.int .i64 ((rd_T81 ((rd_T79 l0_6 a1).f5) x26_1).f3)) ∧ w'.cell? ⟨gb368, 4, none⟩ = some (.int .i64 ((rd_T81 ((rd_T79 l0_6 a1).f5) x26_1).f4)) ∧ w'.cell? ⟨gb368, 5, none⟩ = some (.string ((rd_T81 ((rd_T79 l0_6 a1).f5) x26_1).f5)) ∧ w'.cell? ⟨gb368, 6, none⟩ = some (.int .i64 ((rd_T81 ((rd_T79 l0_6 a1).f5) x26_1).f6)) ∧ w'.cell? ⟨gb368, 7, none⟩ = some (.int .i64 ((rd_T81 ((rd_T79 l0_6 a1).f5) x26_1).f7)) ∧ w'.cell? (ad366.add ((a1).toNat * 12)) = some (.int .i64 ((rd_T79 l0_6 a1).f0)) ∧ w'.cell? ⟨(ad366.add ((a1).toNat * 12)).block, (ad366.add ((a1).toNat * 12)).off + 1, none⟩ = some (.int .i64 ((rd_T79 l0_6 a1).f1)) ∧ w'.cell? ⟨(ad366.add ((a1).toNat * 12)).block, (ad366.add ((a1).toNat * 12)).off + 2, none⟩ = some (.int .i64 ((rd_T79 l0_6 a1).f2)) ∧ w'.cell? ⟨(ad366.add ((a1).toNat * 12)).block, (ad366.add ((a1).toNat * 12)).off + 3, none⟩ = some (.slice A369_3 ((rd_T79 l0_6 a1).f3).length c369_3) ∧ w'.cell? ⟨(ad366.add ((a1).toNat * 12)).block, (ad366.add ((a1).toNat * 12)).off + 4, none⟩ = some (.bool ((rd_T79 l0_6 a1).f4)) ∧ w'.cell? ⟨(ad366.add ((a1).toNat * 12)).block, (ad366.add ((a1).toNat * 12)).off + 5, none⟩ = some (.slice A369_5 ((rd_T79 l0_6 a1).f5).length c369_5) ∧ w'.cell? ⟨(ad366.add ((a1).toNat * 12)).block, (ad366.add ((a1).toNat * 12)).off + 6, none⟩ = some (.slice A369_6 ((rd_T79 l0_6 a1).f6).length c369_6) ∧ w'.cell? ⟨(ad366.add ((a1).toNat * 12)).block, (ad366.add ((a1).toNat * 12)).off + 7, none⟩ = some (.int .i64 ((rd_T79 l0_6 a1).f7)) ∧ w'.cell? ⟨(ad366.add ((a1).toNat * 12)).block, (ad366.add ((a1).toNat * 12)).off + 8, none⟩ = some (.int .i64 ((rd_T79 l0_6 a1).f8.f0)) ∧ w'.cell? ⟨(ad366.add ((a1).toNat * 12)).block, (ad366.add ((a1).toNat * 12)).off + 9, none⟩ = some (.int .i64 ((rd_T79 l0_6 a1).f8.f1)) ∧ w'.cell? ⟨(ad366.add ((a1).toNat * 12)).block, (ad366.add ((a1).toNat * 12)).off + 10, none⟩ = some (.int .i64 ((rd_T79 l0_6 a1).f8.f2)) ∧ w'.cell? ⟨(ad366.add ((a1).toNat * 12)).block, (ad366.add ((a1).toNat * 12)).off + 11, none⟩ = some (.int .i64 ((rd_T79 l0_6 a1).f8.f3))) (ds := []) #[false, false, false, false, false, false, false, false, false, false, false, false, false, false, false] (by kernel_rfl) rfl rfl ⟨(blk_cell BK364.out 0).trans rfl, (blk_cell BK364.out 1).trans rfl, (blk_cell BK364.out 2).trans rfl, (blk_cell BK364.out 3).trans rfl, (blk_cell BK364.out 4).trans rfl, (blk_cell BK364.out 5).trans rfl, (blk_cell BK364.out 6).trans rfl, (blk_cell BK364.out 7).trans rfl, (blk_cell BK364.out 8).trans rfl, (blk_cell BK364.out 9).trans rfl, (blk_cell BK364.out 10).trans rfl, (blk_cell BK368.out 0).trans rfl, (blk_cell BK368.out 1).trans rfl, (blk_cell BK368.out 2).trans rfl, (blk_cell BK368.out 3).trans rfl, (blk_cell BK368.out 4).trans rfl, (blk_cell BK368.out 5).trans rfl, (blk_cell BK368.out 6).trans rfl, (blk_cell BK368.out 7).trans rfl, ((HB.out.cell (World.block_lt_of_cell? w _ hw369_0)).trans hw369_0), ((HB.out.cell (World.block_lt_of_cell? w _ hw369_1)).trans hw369_1), ((HB.out.cell (World.block_lt_of_cell? w _ hw369_2)).trans hw369_2), ((HB.out.cell (World.block_lt_of_cell? w _ hw369_3)).trans hw369_3), ((HB.out.cell (World.block_lt_of_cell? w _ hw369_4)).trans hw369_4), ((HB.out.cell (World.block_lt_of_cell? w _ hw369_5)).trans hw369_5), ((HB.out.cell (World.block_lt_of_cell? w _ hw369_6)).trans hw369_6), ((HB.out.cell (World.block_lt_of_cell? w _ hw369_7)).trans hw369_7), ((HB.out.cell (World.block_lt_of_cell? w _ hw369_8)).trans hw369_8), ((HB.out.cell (World.block_lt_of_cell? w _ hw369_9)).trans hw369_9), ((HB.out.cell (World.block_lt_of_cell? w _ hw369_10)).trans hw369_10), ((HB.out.cell (World.block_lt_of_cell? w _ hw369_11)).trans hw369_11)⟩ (fun hHeld => ?_); refine with_tabW impl_LateOf.tab7 impl_LateOf.bits7 (fun HT_ HW_ => ?_)
   generalize w21.drew = w22 at BK364 BK368 HB HR369_3 HR369_5 HR369_6 hx369_0 hx369_1 hx369_10 hx369_11 hx369_2 hx369_3 hx369_4 hx369_5 hx369_6 hx369_7 hx369_8 hx369_9 hHeld ⊢
   refine pure_ (i := 0) (N := some 31) (v := ?_) (a' := ?_) #[true, false, false, false, false, false, false, false, false, false, false, false, false, false, false] rfl rfl (any_of HT_.out (by kernel_rfl)) (fun _ _ _ h => h) (Or.inl ⟨by rfl, ?_⟩) ?_ ?_
   rotate_left
   ·
    intro w'
    go_simp
    with_reducible rfl
   rotate_left
   ·
    simp only [Act.put, List.setIfInBounds_toArray, List.set_cons_zero, List.set_cons_succ, i64_w, i32_w]
    rfl
   refine pure_ (i := 2) (N := some 33) (v := ?_) (a' := ?_) #[true, false, true, false, false, false, false, false, false, false, false, false, false, false, false] rfl rfl (any_of HT_.out (by kernel_rfl)) (fun _ _ _ h => h) (Or.inl ⟨by rfl, ?_⟩) ?_ ?_
   rotate_left
   ·
    intro w'
    go_simp
    with_reducible rfl
   rotate_left
   ·
    simp only [Act.put, List.setIfInBounds_toArray, List.set_cons_zero, List.set_cons_succ, i64_w, i32_w]
    rfl
   refine pure_ (i := 6) (N := some 37) (v := ?_) (a' := ?_) #[true, false, true, false, false, false, true, false, false, false, false, false, false, false, false] rfl rfl (any_of HT_.out (by kernel_rfl)) (fun _ _ _ h => h) (Or.inl ⟨by rfl, ?_⟩) ?_ ?_
   rotate_left
   ·
    intro w'
    go_simp
    with_reducible rfl
   rotate_left
   ·
    simp only [Act.put, List.setIfInBounds_toArray, List.set_cons_zero, List.set_cons_succ, i64_w, i32_w]
    rfl
   refine take_ (i := 1) (N := some 32) (v := ?_) (a' := ?_) #[true, true, true, false, false, false, true, false, false, false, false, false, false, false, false] rfl rfl (take_ofW HT_.out HW_.out (by kernel_rfl)) (fun _ _ _ h => h) (Or.inl ⟨by rfl, ?_⟩) hHeld ?_ ?_
   rotate_left
   ·
    rintro w' ⟨s0, s1, s2, s3, s4, s5, s6, s7, s8, s9, s10, s11, s12, s13, s14, s15, s16, s17, s18, s19, s20, s21, s22, s23, s24, s25, s26, s27, s28, s29, s30⟩
    go_simp
    with_reducible rfl
   rotate_left
   ·
    simp only [Act.put, List.setIfInBounds_toArray, List.set_cons_zero, List.set_cons_succ, i64_w, i32_w]
    rfl
   refine pure_ (i := 3) (N := some 34) (v := ?_) (a' := ?_) #[true, true, true, true, false, false, true, false, false, false, false, false, false, false, false] rfl rfl (any_of HT_.out (by kernel_rfl)) (fun _ _ _ h => h) (Or.inl ⟨by rfl, ?_⟩) ?_ ?_
   rotate_left
   ·
    intro w'
    go_simp
    with_reducible rfl
   rotate_left
   ·
    simp only [Act.put, List.setIfInBounds_toArray, List.set_cons_zero, List.set_cons_succ, i64_w, i32_w]
    rfl
   refine pure_ (i := 4) (N := some 35) (v := ?_) (a' := ?_) #[true, true, true, true, true, false, true, false, false, false, false, false, false, false, false] rfl rfl (any_of HT_.out (by kernel_rfl)) (fun _ _ _ h => h) (Or.inl ⟨by rfl, ?_⟩) ?_ ?_
   rotate_left
   ·
    intro w'
    go_simp
    with_reducible rfl
   rotate_left
   ·
    simp only [Act.put, List.setIfInBounds_toArray, List.set_cons_zero, List.set_cons_succ, i64_w, i32_w]
    rfl
   refine take_ (i := 5) (N := some 36) (v := ?_) (a' := ?_) #[true, true, true, true, true, true, true, false, false, false, false, false, false, false, false] rfl rfl (take_ofW HT_.out HW_.out (by kernel_rfl)) (fun _ _ _ h => h) (Or.inl ⟨by rfl, ?_⟩) hHeld ?_ ?_
   rotate_left
   ·
    rintro w' ⟨s0, s1, s2, s3, s4, s5, s6, s7, s8, s9, s10, s11, s12, s13, s14, s15, s16, s17, s18, s19, s20, s21, s22, s23, s24, s25, s26, s27, s28, s29, s30⟩
    go_simp
    with_reducible rfl
   rotate_left
   ·
    simp only [Act.put, List.setIfInBounds_toArray, List.set_cons_zero, List.set_cons_succ, i64_w, i32_w]
    rfl
   refine take_ (i := 7) (N := some 38) (v := ?_) (a' := ?_) #[true, true, true, true, true, true, true, true, false, false, false, false, false, false, false] rfl rfl (take_ofW HT_.out HW_.out (by kernel_rfl)) (fun _ _ _ h => h) (Or.inl ⟨by rfl, ?_⟩) hHeld ?_ ?_
   rotate_left
   ·
    rintro w' ⟨s0, s1, s2, s3, s4, s5, s6, s7, s8, s9, s10, s11, s12, s13, s14, s15, s16, s17, s18, s19, s20, s21, s22, s23, s24, s25, s26, s27, s28, s29, s30⟩
    go_simp
    with_reducible rfl
   rotate_left
   ·
    simp only [Act.put, List.setIfInBounds_toArray, List.set_cons_zero, List.set_cons_succ, i64_w, i32_w]
    rfl
   refine join_ (σ := Nat) 2 #[true, true, true, true, true, true, true, true, true, true, true, true, true, false, false] (fun s_ => [(39, .tuple #[.agg #[.string t370, .int .i64 t371, .int .i64 t372, .int .i64 t373, .int .i64 t374], .bool t375]), (8, .pointer (some ⟨s_, 0, none⟩)), (30, .tuple #[.agg #[.string t370, .int .i64 t371, .int .i64 t372, .int .i64 t373, .int .i64 t374], .bool t375]), (40, .agg #[.string t370, .int .i64 t371, .int .i64 t372, .int .i64 t373, .int .i64 t374]), (41, .bool t375)]) (fun s_ w' => (w'.cell? ⟨gb364, 0, none⟩ = some (.int .i64 a0_0) ∧ w'.cell? ⟨gb364, 1, none⟩ = some (.slice A0_1 l0_1.length c0_1) ∧ w'.cell? ⟨gb364, 2, none⟩ = some (.slice A0_2 l0_2.length c0_2) ∧ w'.cell? ⟨gb364, 3, none⟩ = some (.int .i64 a0_3) ∧ w'.cell? ⟨gb364, 4, none⟩ = some (.bool a0_4) ∧ w'.cell? ⟨gb364, 5, none⟩ = some (.slice A0_5 l0_5.length c0_5) ∧ w'.cell? ⟨gb364, 6, none⟩ = some (.slice (some ad366) l0_6.length c0_6) ∧ w'.cell? ⟨gb364, 7, none⟩ = some (.slice A0_7 l0_7.length c0_7) ∧ w'.cell? ⟨gb364, 8, none⟩ = some (.slice A0_8 l0_8.length c0_8) ∧ w'.cell? ⟨gb364, 9, none⟩ = some (.int .i64 a0_9) ∧ w'.cell? ⟨gb364, 10, none⟩ = some (.int .i64 a0_10) ∧ w'.cell? ⟨gb368, 0, none⟩ = some (.int .i64 ((rd_T81 ((rd_T79 l0_6 a1).f5) x26_1).f0)) ∧ w'.cell? ⟨gb368, 1, none⟩ = some (.string ((rd_T81 ((rd_T79 l0_6 a1).f5) x26_1).f1)) ∧ w'.cell? ⟨gb368, 2, none⟩ = some (.int .i64 ((rd_T81 ((rd_T79 l0_6 a1).f5) x26_1).f2)) ∧ w'.cell? ⟨gb368, 3, none⟩ = some (.int .i64 ((rd_T81 ((rd_T79 l0_6 a1).f5) x26_1).f3)) ∧ w'.cell? ⟨gb368, 4, none⟩ = some (.int .i64 ((rd_T81 ((rd_T79 l0_6 a1).f5) x26_1).f4)) ∧ w'.cell? ⟨gb368, 5, none⟩ = some (.string ((rd_T81 ((rd_T79 l0_6 a1).f5) x26_1).f5)) ∧ w'.cell? ⟨gb368, 6, none⟩ = some (.int .i64 ((rd_T81 ((rd_T79 l0_6 a1).f5) x26_1).f6)) ∧ w'.cell? ⟨gb368, 7, none⟩ = some (.int .i64 ((rd_T81 ((rd_T79 l0_6 a1).f5) x26_1).f7)) ∧ w'.cell? (ad366.add ((a1).toNat * 12)) = some (.int .i64 ((rd_T79 l0_6 a1).f0)) ∧ w'.cell? ⟨(ad366.add ((a1).toNat * 12)).block, (ad366.add ((a1).toNat * 12)).off + 1, none⟩ = some (.int .i64 ((rd_T79 l0_6 a1).f1)) ∧ w'.cell? ⟨(ad366.add ((a1).toNat * 12)).block, (ad366.add ((a1).toNat * 12)).off + 2, none⟩ = some (.int .i64 ((rd_T79 l0_6 a1).f2)) ∧ w'.cell? ⟨(ad366.add ((a1).toNat * 12)).block, (ad366.add ((a1).toNat * 12)).off + 3, none⟩ = some (.slice A369_3 ((rd_T79 l0_6 a1).f3).length c369_3) ∧ w'.cell? ⟨(ad366.add ((a1).toNat * 12)).block, (ad366.add ((a1).toNat * 12)).off + 4, none⟩ = some (.bool ((rd_T79 l0_6 a1).f4)) ∧ w'.cell? ⟨(ad366.add ((a1).toNat * 12)).block, (ad366.add ((a1).toNat * 12)).off + 5, none⟩ = some (.slice A369_5 ((rd_T79 l0_6 a1).f5).length c369_5) ∧ w'.cell? ⟨(ad366.add ((a1).toNat * 12)).block, (ad366.add ((a1).toNat * 12)).off + 6, none⟩ = some (.slice A369_6 ((rd_T79 l0_6 a1).f6).length c369_6) ∧ w'.cell? ⟨(ad366.add ((a1).toNat * 12)).block, (ad366.add ((a1).toNat * 12)).off + 7, none⟩ = some (.int .i64 ((rd_T79 l0_6 a1).f7)) ∧ w'.cell? ⟨(ad366.add ((a1).toNat * 12)).block, (ad366.add ((a1).toNat * 12)).off + 8, none⟩ = some (.int .i64 ((rd_T79 l0_6 a1).f8.f0)) ∧ w'.cell? ⟨(ad366.add ((a1).toNat * 12)).block, (ad366.add ((a1).toNat * 12)).off + 9, none⟩ = some (.int .i64 ((rd_T79 l0_6 a1).f8.f1)) ∧ w'.cell? ⟨(ad366.add ((a1).toNat * 12)).block, (ad366.add ((a1).toNat * 12)).off + 10, none⟩ = some (.int .i64 ((rd_T79 l0_6 a1).f8.f2)) ∧ w'.cell? ⟨(ad366.add ((a1).toNat * 12)).block, (ad366.add ((a1).toNat * 12)).off + 11, none⟩ = some (.int .i64 ((rd_T79 l0_6 a1).f8.f3))) ∧ (w'.heap[gb364]? = some (.cells #[.int .i64 a0_0, .slice A0_1 l0_1.length c0_1, .slice A0_2 l0_2.length c0_2, .int .i64 a0_3, .bool a0_4, .slice A0_5 l0_5.length c0_5, .slice (some ad366) l0_6.length c0_6, .slice A0_7 l0_7.length c0_7, .slice A0_8 l0_8.length c0_8, .int .i64 a0_9, .int .i64 a0_10] 47 (0, 0))) ∧ (w'.heap[gb368]? = some (.cells #[.int .i64 ((rd_T81 ((rd_T79 l0_6 a1).f5) x26_1).f0), .string ((rd_T81 ((rd_T79 l0_6 a1).f5) x26_1).f1), .int .i64 ((rd_T81 ((rd_T79 l0_6 a1).f5) x26_1).f2), .int .i64 ((rd_T81 ((rd_T79 l0_6 a1).f5) x26_1).f3), .int .i64 ((rd_T81 ((rd_T79 l0_6 a1).f5) x26_1).f4), .string ((rd_T81 ((rd_T79 l0_6 a1).f5) x26_1).f5), .int .i64 ((rd_T81 ((rd_T79 l0_6 a1).f5) x26_1).f6), .int .i64 ((rd_T81 ((rd_T79 l0_6 a1).f5) x26_1).f7)] 81 (0, 0))) ∧ (w'.heap[s_]? = some (.cells #[.string (⟨#[]⟩ : ByteArray), .int .i64 0, .int .i64 0, .int .i64 0, .int .i64 0] 83 (0, 0))) ∧ (w.heap.size ≤ s_) ∧ (w.heap.size ≤ s_) ∧ (gb364 ≠ s_) ∧ (s_ ≠ gb364) ∧ (gb368 ≠ s_) ∧ (s_ ≠ gb368) ∧ (Below w.heap.size w w')) ?_ ?_
   rotate_left
   ·
    intro hCont
    refine two_ (i := 8) (j := 12) (Ni := some 39) (Nj := some 8) #[true, true, true, true, true, true, true, true, true, false, false, false, false, false, false] #[true, true, true, true, true, true, true, true, false, false, false, false, true, false, false] rfl rfl rfl rfl (two_of HT_.out (by kernel_rfl)) (by decide) (by decide) (fun K hK => ?_) (fun K hK => ?_)
    ·
     skip
     refine goes_ Try.func44 (by kernel_rfl) rfl #[.slice A369_3 ((rd_T79 l0_6 a1).f3).length c369_3, .string ((rd_T81 ((rd_T79 l0_6 a1).f5) x26_1).f1)] (by rfl) rfl rfl (by (try simp only [List.map_toArray, List.map_cons, List.map_nil]); first | done | rfl | (simp only [List.length_drop, List.length_take]; rfl)) ?_
     with_reducible refine (impl_DbAt.calls _ _ ((rd_T79 l0_6 a1).f3) ((rd_T81 ((rd_T79 l0_6 a1).f5) x26_1).f1) t370 t371 t372 t373 t374 t375 _ ?side1 ?side2 A15.out).mono ?_
     (case side1 => exact Kd.C_below HR369_3.out (xb HB.out))
     (case side2 => exact HC369_3.out)
     rintro e w23 ⟨rfl, hb⟩
     refine ⟨_, rfl, ?_⟩
     have n0_ := Aside0.mk (blk_below (g := gb364) (xg BK364.out) hb)
     have n1_ := Aside0.mk (blk_below (g := gb368) (xg BK368.out) hb)
     have n2_ := Aside0.mk (below_step (by repeat (first | (with_reducible first | exact HB.out | apply below_alloc | apply pw_below_drewN | apply below_drew1 | refine below_set ?_ GE364.out | refine below_set ?_ GE368.out) | exact HB.out)) hb)
     clear BK364
     clear BK368
     clear HB
     have BK364 := n0_
     have BK368 := n1_
     have HB := n2_
     clear n0_ n1_ n2_
     (try clear hb)
     (try clear hb2)
     (try clear hk)
     (try clear hi)
     refine hK.out _ _ ⟨(blk_cell BK364.out 0).trans rfl, (blk_cell BK364.out 1).trans rfl, (blk_cell BK364.out 2).trans rfl, (blk_cell BK364.out 3).trans rfl, (blk_cell BK364.out 4).trans rfl, (blk_cell BK364.out 5).trans rfl, (blk_cell BK364.out 6).trans rfl, (blk_cell BK364.out 7).trans rfl, (blk_cell BK364.out 8).trans rfl, (blk_cell BK364.out 9).trans rfl, (blk_cell BK364.out 10).trans rfl, (blk_cell BK368.out 0).trans rfl, (blk_cell BK368.out 1).trans rfl, (blk_cell BK368.out 2).trans rfl, (blk_cell BK368.out 3).trans rfl, (blk_cell BK368.out 4).trans rfl, (blk_cell BK368.out 5).trans rfl, (blk_cell BK368.out 6).trans rfl, (blk_cell BK368.out 7).trans rfl, ((HB.out.cell (World.block_lt_of_cell? w _ hw369_0)).trans hw369_0), ((HB.out.cell (World.block_lt_of_cell? w _ hw369_1)).trans hw369_1), ((HB.out.cell (World.block_lt_of_cell? w _ hw369_2)).trans hw369_2), ((HB.out.cell (World.block_lt_of_cell? w _ hw369_3)).trans hw369_3), ((HB.out.cell (World.block_lt_of_cell? w _ hw369_4)).trans hw369_4), ((HB.out.cell (World.block_lt_of_cell? w _ hw369_5)).trans hw369_5), ((HB.out.cell (World.block_lt_of_cell? w _ hw369_6)).trans hw369_6), ((HB.out.cell (World.block_lt_of_cell? w _ hw369_7)).trans hw369_7), ((HB.out.cell (World.block_lt_of_cell? w _ hw369_8)).trans hw369_8), ((HB.out.cell (World.block_lt_of_cell? w _ hw369_9)).trans hw369_9), ((HB.out.cell (World.block_lt_of_cell? w _ hw369_10)).trans hw369_10), ((HB.out.cell (World.block_lt_of_cell? w _ hw369_11)).trans hw369_11)⟩ (fun hHeld => ?_)
     clear hK K
     refine norm_ (a' := ?_) ?_ ?_
     rotate_left
     ·
      show Act.put _ (some 39) _ = _
      simp only [Act.put, List.setIfInBounds_toArray, List.set_cons_zero, List.set_cons_succ, i64_w, i32_w]
      rfl
     refine pure_ (i := 9) (N := some 30) (v := ?_) (a' := ?_) #[true, true, true, true, true, true, true, true, true, true, false, false, false, false, false] rfl rfl (any_of HT_.out (by kernel_rfl)) (fun _ _ _ h => h) (Or.inl ⟨by rfl, ?_⟩) ?_ ?_
     rotate_left
     ·
      intro w'
      go_simp
      with_reducible rfl
     rotate_left
     ·
      simp only [Act.put, List.setIfInBounds_toArray, List.set_cons_zero, List.set_cons_succ, i64_w, i32_w]
      rfl
     refine pure_ (i := 10) (N := some 40) (v := ?_) (a' := ?_) #[true, true, true, true, true, true, true, true, true, true, true, false, false, false, false] rfl rfl (any_of HT_.out (by kernel_rfl)) (fun _ _ _ h => h) (Or.inl ⟨by rfl, ?_⟩) ?_ ?_
     rotate_left
     ·
      intro w'
      go_simp
      with_reducible rfl
     rotate_left
     ·
      simp only [Act.put, List.setIfInBounds_toArray, List.set_cons_zero, List.set_cons_succ, i64_w, i32_w]
      rfl
     refine pure_ (i := 11) (N := some 41) (v := ?_) (a' := ?_) #[true, true, true, true, true, true, true, true, true, true, true, true, false, false, false] rfl rfl (any_of HT_.out (by kernel_rfl)) (fun _ _ _ h => h) (Or.inl ⟨by rfl, ?_⟩) ?_ ?_
     rotate_left
     ·
      intro w'
      go_simp
      with_reducible rfl
     rotate_left
     ·
      simp only [Act.put, List.setIfInBounds_toArray, List.set_cons_zero, List.set_cons_succ, i64_w, i32_w]
      rfl
     refine one_ (i := 12) (N := some 8) #[true, true, true, true, true, true, true, true, true, true, true, true, true, false, false] rfl rfl (one_of HT_.out (by kernel_rfl)) (by decide) (fun K hK => ?_)
     refine box_step ?hg (N := 8) ?hd (cs := #[.string (⟨#[]⟩ : ByteArray), .int .i64 0, .int .i64 0, .int .i64 0, .int .i64 0]) (t := 83) ?hr ?_; (case hd => rfl); (case hg => rfl); (case hr => first | (go_simp; done) | (go_simp; rfl))
     intro gb376 hg w24 hbox hb
     have n0_ := Aside0.mk (blk_below (g := gb364) (xg BK364.out) hb)
     have n1_ := Aside0.mk (blk_below (g := gb368) (xg BK368.out) hb)
     have n2_ := Aside0.mk (below_step (xb HB.out) hb)
     have n3_ := Aside0.mk (hbox)
     have n4_ := Aside0.mk ((by rw [hg]; exact (below_size (xb HB.out)) : w.heap.size ≤ gb376))
     have n5_ := Aside0.mk ((by rw [hg]; exact (below_size (xb HB.out)) : w.heap.size ≤ gb376))
     have n6_ := Aside0.mk (xlt (g := gb364) hg (xg BK364.out))
     have n7_ := Aside0.mk n6_.out.symm
     have n8_ := Aside0.mk (xlt (g := gb368) hg (xg BK368.out))
     have n9_ := Aside0.mk n8_.out.symm
     clear BK364
     clear BK368
     clear HB
     have BK364 := n0_
     have BK368 := n1_
     have HB := n2_
     have BK376 := n3_
     have GW376 := n4_
     have GE376 := n5_
     have NB364_376 := n6_
     have NB376_364 := n7_
     have NB368_376 := n8_
     have NB376_368 := n9_
     clear n0_ n1_ n2_ n3_ n4_ n5_ n6_ n7_ n8_ n9_
     clear hb hbox hg
     refine hK.out _ _ ⟨(blk_cell BK364.out 0).trans rfl, (blk_cell BK364.out 1).trans rfl, (blk_cell BK364.out 2).trans rfl, (blk_cell BK364.out 3).trans rfl, (blk_cell BK364.out 4).trans rfl, (blk_cell BK364.out 5).trans rfl, (blk_cell BK364.out 6).trans rfl, (blk_cell BK364.out 7).trans rfl, (blk_cell BK364.out 8).trans rfl, (blk_cell BK364.out 9).trans rfl, (blk_cell BK364.out 10).trans rfl, (blk_cell BK368.out 0).trans rfl, (blk_cell BK368.out 1).trans rfl, (blk_cell BK368.out 2).trans rfl, (blk_cell BK368.out 3).trans rfl, (blk_cell BK368.out 4).trans rfl, (blk_cell BK368.out 5).trans rfl, (blk_cell BK368.out 6).trans rfl, (blk_cell BK368.out 7).trans rfl, ((HB.out.cell (World.block_lt_of_cell? w _ hw369_0)).trans hw369_0), ((HB.out.cell (World.block_lt_of_cell? w _ hw369_1)).trans hw369_1), ((HB.out.cell (World.block_lt_of_cell? w _ hw369_2)).trans hw369_2), ((HB.out.cell (World.block_lt_of_cell? w _ hw369_3)).trans hw369_3), ((HB.out.cell (World.block_lt_of_cell? w _ hw369_4)).trans hw369_4), ((HB.out.cell (World.block_lt_of_cell? w _ hw369_5)).trans hw369_5), ((HB.out.cell (World.block_lt_of_cell? w _ hw369_6)).trans hw369_6), ((HB.out.cell (World.block_lt_of_cell? w _ hw369_7)).trans hw369_7), ((HB.out.cell (World.block_lt_of_cell? w _ hw369_8)).trans hw369_8), ((HB.out.cell (World.block_lt_of_cell? w _ hw369_9)).trans hw369_9), ((HB.out.cell (World.block_lt_of_cell? w _ hw369_10)).trans hw369_10), ((HB.out.cell (World.block_lt_of_cell? w _ hw369_11)).trans hw369_11)⟩ (fun hHeld => ?_)
     clear hK K
     refine norm_ (a' := ?_) ?_ ?_
     rotate_left
     ·
      show Act.put _ (some 8) _ = _
      simp only [Act.put, List.setIfInBounds_toArray, List.set_cons_zero, List.set_cons_succ, i64_w, i32_w]
      rfl
     exact norm_ (by simp only [putAll, Act.put, List.setIfInBounds_toArray, List.set_cons_zero, List.set_cons_succ]) (hCont (gb376) _ ⟨hHeld, (xg BK364.out), (xg BK368.out), (xg BK376.out), GW376.out, GE376.out, NB364_376.out, NB376_364.out, NB368_376.out, NB376_368.out, (by repeat (first | (with_reducible first | exact HB.out | apply below_alloc | apply pw_below_drewN | apply below_drew1 | refine below_set ?_ GE364.out | refine below_set ?_ GE368.out | refine below_set ?_ GE376.out) | exact HB.out))⟩)
    skip
    refine box_step ?hg (N := 8) ?hd (cs := #[.string (⟨#[]⟩ : ByteArray), .int .i64 0, .int .i64 0, .int .i64 0, .int .i64 0]) (t := 83) ?hr ?_; (case hd => rfl); (case hg => rfl); (case hr => first | (go_simp; done) | (go_simp; rfl))
    intro gb376 hg w23 hbox hb
    have n0_ := Aside0.mk (blk_below (g := gb364) (xg BK364.out) hb)
    have n1_ := Aside0.mk (blk_below (g := gb368) (xg BK368.out) hb)
    have n2_ := Aside0.mk (below_step (xb HB.out) hb)
    have n3_ := Aside0.mk (hbox)
    have n4_ := Aside0.mk ((by rw [hg]; exact (below_size (xb HB.out)) : w.heap.size ≤ gb376))
    have n5_ := Aside0.mk ((by rw [hg]; exact (below_size (xb HB.out)) : w.heap.size ≤ gb376))
    have n6_ := Aside0.mk (xlt (g := gb364) hg (xg BK364.out))
    have n7_ := Aside0.mk n6_.out.symm
    have n8_ := Aside0.mk (xlt (g := gb368) hg (xg BK368.out))
    have n9_ := Aside0.mk n8_.out.symm
    clear BK364
    clear BK368
    clear HB
    have BK364 := n0_
    have BK368 := n1_
    have HB := n2_
    have BK376 := n3_
    have GW376 := n4_
    have GE376 := n5_
    have NB364_376 := n6_
    have NB376_364 := n7_
    have NB368_376 := n8_
    have NB376_368 := n9_
    clear n0_ n1_ n2_ n3_ n4_ n5_ n6_ n7_ n8_ n9_
    clear hb hbox hg
    refine hK.out _ _ ⟨(blk_cell BK364.out 0).trans rfl, (blk_cell BK364.out 1).trans rfl, (blk_cell BK364.out 2).trans rfl, (blk_cell BK364.out 3).trans rfl, (blk_cell BK364.out 4).trans rfl, (blk_cell BK364.out 5).trans rfl, (blk_cell BK364.out 6).trans rfl, (blk_cell BK364.out 7).trans rfl, (blk_cell BK364.out 8).trans rfl, (blk_cell BK364.out 9).trans rfl, (blk_cell BK364.out 10).trans rfl, (blk_cell BK368.out 0).trans rfl, (blk_cell BK368.out 1).trans rfl, (blk_cell BK368.out 2).trans rfl, (blk_cell BK368.out 3).trans rfl, (blk_cell BK368.out 4).trans rfl, (blk_cell BK368.out 5).trans rfl, (blk_cell BK368.out 6).trans rfl, (blk_cell BK368.out 7).trans rfl, ((HB.out.cell (World.block_lt_of_cell? w _ hw369_0)).trans hw369_0), ((HB.out.cell (World.block_lt_of_cell? w _ hw369_1)).trans hw369_1), ((HB.out.cell (World.block_lt_of_cell? w _ hw369_2)).trans hw369_2), ((HB.out.cell (World.block_lt_of_cell? w _ hw369_3)).trans hw369_3), ((HB.out.cell (World.block_lt_of_cell? w _ hw369_4)).trans hw369_4), ((HB.out.cell (World.block_lt_of_cell? w _ hw369_5)).trans hw369_5), ((HB.out.cell (World.block_lt_of_cell? w _ hw369_6)).trans hw369_6), ((HB.out.cell (World.block_lt_of_cell? w _ hw369_7)).trans hw369_7), ((HB.out.cell (World.block_lt_of_cell? w _ hw369_8)).trans hw369_8), ((HB.out.cell (World.block_lt_of_cell? w _ hw369_9)).trans hw369_9), ((HB.out.cell (World.block_lt_of_cell? w _ hw369_10)).trans hw369_10), ((HB.out.cell (World.block_lt_of_cell? w _ hw369_11)).trans hw369_11)⟩ (fun hHeld => ?_)
    clear hK K
    refine norm_ (a' := ?_) ?_ ?_
    rotate_left
    ·
     show Act.put _ (some 8) _ = _
     simp only [Act.put, List.setIfInBounds_toArray, List.set_cons_zero, List.set_cons_succ, i64_w, i32_w]
     rfl
    refine one_ (i := 8) (N := some 39) #[true, true, true, true, true, true, true, true, true, false, false, false, true, false, false] rfl rfl (one_of HT_.out (by kernel_rfl)) (by decide) (fun K hK => ?_)
    refine goes_ Try.func44 (by kernel_rfl) rfl #[.slice A369_3 ((rd_T79 l0_6 a1).f3).length c369_3, .string ((rd_T81 ((rd_T79 l0_6 a1).f5) x26_1).f1)] (by rfl) rfl rfl (by (try simp only [List.map_toArray, List.map_cons, List.map_nil]); first | done | rfl | (simp only [List.length_drop, List.length_take]; rfl)) ?_
    with_reducible refine (impl_DbAt.calls _ _ ((rd_T79 l0_6 a1).f3) ((rd_T81 ((rd_T79 l0_6 a1).f5) x26_1).f1) t370 t371 t372 t373 t374 t375 _ ?side1 ?side2 A15.out).mono ?_
    (case side1 => exact Kd.C_below HR369_3.out (xb HB.out))
    (case side2 => exact HC369_3.out)
    rintro e w24 ⟨rfl, hb⟩
    refine ⟨_, rfl, ?_⟩
    have n0_ := Aside0.mk (blk_below (g := gb364) (xg BK364.out) hb)
    have n1_ := Aside0.mk (blk_below (g := gb368) (xg BK368.out) hb)
    have n2_ := Aside0.mk (blk_below (g := gb376) (o := .cells #[.string (⟨#[]⟩ : ByteArray), .int .i64 0, .int .i64 0, .int .i64 0, .int .i64 0] 83 (0, 0)) (xg BK376.out) hb)
    have n3_ := Aside0.mk (below_step (by repeat (first | (with_reducible first | exact HB.out | apply below_alloc | apply pw_below_drewN | apply below_drew1 | refine below_set ?_ GE364.out | refine below_set ?_ GE368.out | refine below_set ?_ GE376.out) | exact HB.out)) hb)
    clear BK364
    clear BK368
    clear BK376
    clear HB
    have BK364 := n0_
    have BK368 := n1_
    have BK376 := n2_
    have HB := n3_
    clear n0_ n1_ n2_ n3_
    (try clear hb)
    (try clear hb2)
    (try clear hk)
    (try clear hi)
    refine hK.out _ _ ⟨(blk_cell BK364.out 0).trans rfl, (blk_cell BK364.out 1).trans rfl, (blk_cell BK364.out 2).trans rfl, (blk_cell BK364.out 3).trans rfl, (blk_cell BK364.out 4).trans rfl, (blk_cell BK364.out 5).trans rfl, (blk_cell BK364.out 6).trans rfl, (blk_cell BK364.out 7).trans rfl, (blk_cell BK364.out 8).trans rfl, (blk_cell BK364.out 9).trans rfl, (blk_cell BK364.out 10).trans rfl, (blk_cell BK368.out 0).trans rfl, (blk_cell BK368.out 1).trans rfl, (blk_cell BK368.out 2).trans rfl, (blk_cell BK368.out 3).trans rfl, (blk_cell BK368.out 4).trans rfl, (blk_cell BK368.out 5).trans rfl, (blk_cell BK368.out 6).trans rfl, (blk_cell BK368.out 7).trans rfl, ((HB.out.cell (World.block_lt_of_cell? w _ hw369_0)).trans hw369_0), ((HB.out.cell (World.block_lt_of_cell? w _ hw369_1)).trans hw369_1), ((HB.out.cell (World.block_lt_of_cell? w _ hw369_2)).trans hw369_2), ((HB.out.cell (World.block_lt_of_cell? w _ hw369_3)).trans hw369_3), ((HB.out.cell (World.block_lt_of_cell? w _ hw369_4)).trans hw369_4), ((HB.out.cell (World.block_lt_of_cell? w _ hw369_5)).trans hw369_5), ((HB.out.cell (World.block_lt_of_cell? w _ hw369_6)).trans hw369_6), ((HB.out.cell (World.block_lt_of_cell? w _ hw369_7)).trans hw369_7), ((HB.out.cell (World.block_lt_of_cell? w _ hw369_8)).trans hw369_8), ((HB.out.cell (World.block_lt_of_cell? w _ hw369_9)).trans hw369_9), ((HB.out.cell (World.block_lt_of_cell? w _ hw369_10)).trans hw369_10), ((HB.out.cell (World.block_lt_of_cell? w _ hw369_11)).trans hw369_11)⟩ (fun hHeld => ?_)
    clear hK K
    refine norm_ (a' := ?_) ?_ ?_
    rotate_left
    ·
     show Act.put _ (some 39) _ = _
     simp only [Act.put, List.setIfInBounds_toArray, List.set_cons_zero, List.set_cons_succ, i64_w, i32_w]
     rfl
    refine pure_ (i := 9) (N := some 30) (v := ?_) (a' := ?_) #[true, true, true, true, true, true, true, true, true, true, false, false, true, false, false] rfl rfl (any_of HT_.out (by kernel_rfl)) (fun _ _ _ h => h) (Or.inl ⟨by rfl, ?_⟩) ?_ ?_
    rotate_left
    ·
     intro w'
     go_simp
     with_reducible rfl
    rotate_left
    ·
     simp only [Act.put, List.setIfInBounds_toArray, List.set_cons_zero, List.set_cons_succ, i64_w, i32_w]
     rfl
    refine pure_ (i := 10) (N := some 40) (v := ?_) (a' := ?_) #[true, true, true, true, true, true, true, true, true, true, true, false, true, false, false] rfl rfl (any_of HT_.out (by kernel_rfl)) (fun _ _ _ h => h) (Or.inl ⟨by rfl, ?_⟩) ?_ ?_
    rotate_left
    ·
     intro w'
     go_simp
     with_reducible rfl
    rotate_left
    ·
     simp only [Act.put, List.setIfInBounds_toArray, List.set_cons_zero, List.set_cons_succ, i64_w, i32_w]
     rfl
    refine pure_ (i := 11) (N := some 41) (v := ?_) (a' := ?_) #[true, true, true, true, true, true, true, true, true, true, true, true, true, false, false] rfl rfl (any_of HT_.out (by kernel_rfl)) (fun _ _ _ h => h) (Or.inl ⟨by rfl, ?_⟩) ?_ ?_
    rotate_left
    ·
     intro w'
     go_simp
     with_reducible rfl
    rotate_left
    ·
     simp only [Act.put, List.setIfInBounds_toArray, List.set_cons_zero, List.set_cons_succ, i64_w, i32_w]
     rfl
    exact norm_ (by simp only [putAll, Act.put, List.setIfInBounds_toArray, List.set_cons_zero, List.set_cons_succ]) (hCont (gb376) _ ⟨hHeld, (xg BK364.out), (xg BK368.out), (xg BK376.out), GW376.out, GE376.out, NB364_376.out, NB376_364.out, NB368_376.out, NB376_368.out, (by repeat (first | (with_reducible first | exact HB.out | apply below_alloc | apply pw_below_drewN | apply below_drew1 | refine below_set ?_ GE364.out | refine below_set ?_ GE368.out | refine below_set ?_ GE376.out) | exact HB.out))⟩)
   rintro gb376 w25 ⟨hS_, h0_, h1_, h2_, h3_, h4_, h5_, h6_, h7_, h8_, h9_⟩
   have n0_ : Aside0 (w25.heap[gb364]? = some (.cells #[.int .i64 a0_0, .slice A0_1 l0_1.length c0_1, .slice A0_2 l0_2.length c0_2, .int .i64 a0_3, .bool a0_4, .slice A0_5 l0_5.length c0_5, .slice (some ad366) l0_6.length c0_6, .slice A0_7 l0_7.length c0_7, .slice A0_8 l0_8.length c0_8, .int .i64 a0_9, .int .i64 a0_10] 47 (0, 0))) := ⟨h0_⟩
   have n1_ : Aside0 (w25.heap[gb368]? = some (.cells #[.int .i64 ((rd_T81 ((rd_T79 l0_6 a1).f5) x26_1).f0), .string ((rd_T81 ((rd_T79 l0_6 a1).f5) x26_1).f1), .int .i64 ((rd_T81 ((rd_T79 l0_6 a1).f5) x26_1).f2), .int .i64 ((rd_T81 ((rd_T79 l0_6 a1).f5) x26_1).f3), .int .i64 ((rd_T81 ((rd_T79 l0_6 a1).f5) x26_1).f4), .string ((rd_T81 ((rd_T79 l0_6 a1).f5) x26_1).f5), .int .i64 ((rd_T81 ((rd_T79 l0_6 a1).f5) x26_1).f6), .int .i64 ((rd_T81 ((rd_T79 l0_6 a1).f5) x26_1).f7)] 81 (0, 0))) := ⟨h1_⟩
   have n2_ : Aside0 (w25.heap[gb376]? = some (.cells #[.string (⟨#[]⟩ : ByteArray), .int .i64 0, .int .i64 0, .int .i64 0, .int .i64 0] 83 (0, 0))) := ⟨h2_⟩
   have n3_ : Aside0 (w.heap.size ≤ gb376) := ⟨h3_⟩
   have n4_ : Aside0 (w.heap.size ≤ gb376) := ⟨h4_⟩
   have n5_ : Aside0 (gb364 ≠ gb376) := ⟨h5_⟩
   have n6_ : Aside0 (gb376 ≠ gb364) := ⟨h6_⟩
   have n7_ : Aside0 (gb368 ≠ gb376) := ⟨h7_⟩
   have n8_ : Aside0 (gb376 ≠ gb368) := ⟨h8_⟩
   have n9_ : Aside0 (Below w.heap.size w w25) := ⟨h9_⟩
   clear BK364
   clear BK368
   clear HB
   clear h0_ h1_ h2_ h3_ h4_ h5_ h6_ h7_ h8_ h9_
   have BK364 := n0_
   have BK368 := n1_
   have BK376 := n2_
   have GW376 := n3_
   have GE376 := n4_
   have NB364_376 := n5_
   have NB376_364 := n6_
   have NB368_376 := n7_
   have NB376_368 := n8_
   have HB := n9_
   clear n0_ n1_ n2_ n3_ n4_ n5_ n6_ n7_ n8_ n9_
   have hHeld : w25.cell? ⟨gb364, 0, none⟩ = some (.int .i64 a0_0) ∧ w25.cell? ⟨gb364, 1, none⟩ = some (.slice A0_1 l0_1.length c0_1) ∧ w25.cell? ⟨gb364, 2, none⟩ = some (.slice A0_2 l0_2.length c0_2) ∧ w25.cell? ⟨gb364, 3, none⟩ = some (.int .i64 a0_3) ∧ w25.cell? ⟨gb364, 4, none⟩ = some (.bool a0_4) ∧ w25.cell? ⟨gb364, 5, none⟩ = some (.slice A0_5 l0_5.length c0_5) ∧ w25.cell? ⟨gb364, 6, none⟩ = some (.slice (some ad366) l0_6.length c0_6) ∧ w25.cell? ⟨gb364, 7, none⟩ = some (.slice A0_7 l0_7.length c0_7) ∧ w25.cell? ⟨gb364, 8, none⟩ = some (.slice A0_8 l0_8.length c0_8) ∧ w25.cell? ⟨gb364, 9, none⟩ = some (.int .i64 a0_9) ∧ w25.cell? ⟨gb364, 10, none⟩ = some (.int .i64 a0_10) ∧ w25.cell? ⟨gb368, 0, none⟩ = some (.int .i64 ((rd_T81 ((rd_T79 l0_6 a1).f5) x26_1).f0)) ∧ w25.cell? ⟨gb368, 1, none⟩ = some (.string ((rd_T81 ((rd_T79 l0_6 a1).f5) x26_1).f1)) ∧ w25.cell? ⟨gb368, 2, none⟩ = some (.int .i64 ((rd_T81 ((rd_T79 l0_6 a1).f5) x26_1).f2)) ∧ w25.cell? ⟨gb368, 3, none⟩ = some (.int .i64 ((rd_T81 ((rd_T79 l0_6 a1).f5) x26_1).f3)) ∧ w25.cell? ⟨gb368, 4, none⟩ = some (.int .i64 ((rd_T81 ((rd_T79 l0_6 a1).f5) x26_1).f4)) ∧ w25.cell? ⟨gb368, 5, none⟩ = some (.string ((rd_T81 ((rd_T79 l0_6 a1).f5) x26_1).f5)) ∧ w25.cell? ⟨gb368, 6, none⟩ = some (.int .i64 ((rd_T81 ((rd_T79 l0_6 a1).f5) x26_1).f6)) ∧ w25.cell? ⟨gb368, 7, none⟩ = some (.int .i64 ((rd_T81 ((rd_T79 l0_6 a1).f5) x26_1).f7)) ∧ w25.cell? (ad366.add ((a1).toNat * 12)) = some (.int .i64 ((rd_T79 l0_6 a1).f0)) ∧ w25.cell? ⟨(ad366.add ((a1).toNat * 12)).block, (ad366.add ((a1).toNat * 12)).off + 1, none⟩ = some (.int .i64 ((rd_T79 l0_6 a1).f1)) ∧ w25.cell? ⟨(ad366.add ((a1).toNat * 12)).block, (ad366.add ((a1).toNat * 12)).off + 2, none⟩ = some (.int .i64 ((rd_T79 l0_6 a1).f2)) ∧ w25.cell? ⟨(ad366.add ((a1).toNat * 12)).block, (ad366.add ((a1).toNat * 12)).off + 3, none⟩ = some (.slice A369_3 ((rd_T79 l0_6 a1).f3).length c369_3) ∧ w25.cell? ⟨(ad366.add ((a1).toNat * 12)).block, (ad366.add ((a1).toNat * 12)).off + 4, none⟩ = some (.bool ((rd_T79 l0_6 a1).f4)) ∧ w25.cell? ⟨(ad366.add ((a1).toNat * 12)).block, (ad366.add ((a1).toNat * 12)).off + 5, none⟩ = some (.slice A369_5 ((rd_T79 l0_6 a1).f5).length c369_5) ∧ w25.cell? ⟨(ad366.add ((a1).toNat * 12)).block, (ad366.add ((a1).toNat * 12)).off + 6, none⟩ = some (.slice A369_6 ((rd_T79 l0_6 a1).f6).length c369_6) ∧ w25.cell? ⟨(ad366.add ((a1).toNat * 12)).block, (ad366.add ((a1).toNat * 12)).off + 7, none⟩ = some (.int .i64 ((rd_T79 l0_6 a1).f7)) ∧ w25.cell? ⟨(ad366.add ((a1).toNat * 12)).block, (ad366.add ((a1).toNat * 12)).off + 8, none⟩ = some (.int .i64 ((rd_T79 l0_6 a1).f8.f0)) ∧ w25.cell? ⟨(ad366.add ((a1).toNat * 12)).block, (ad366.add ((a1).toNat * 12)).off + 9, none⟩ = some (.int .i64 ((rd_T79 l0_6 a1).f8.f1)) ∧ w25.cell? ⟨(ad366.add ((a1).toNat * 12)).block, (ad366.add ((a1).toNat * 12)).off + 10, none⟩ = some (.int .i64 ((rd_T79 l0_6 a1).f8.f2)) ∧ w25.cell? ⟨(ad366.add ((a1).toNat * 12)).block, (ad366.add ((a1).toNat * 12)).off + 11, none⟩ = some (.int .i64 ((rd_T79 l0_6 a1).f8.f3)) := hS_
   refine norm_ (a' := ?_) ?_ ?_
   rotate_left
   ·
    simp only [putAll, Act.put, List.setIfInBounds_toArray, List.set_cons_zero, List.set_cons_succ]
    rfl
   refine one_ (i := 13) (N := none) #[true, true, true, true, true, true, true, true, true, true, true, true, true, true, false] rfl rfl (one_of HT_.out (by kernel_rfl)) (by decide) (fun K hK => ?_)
   have hs26 : w25.cell? ⟨gb376, 0, none⟩ = some (.string (⟨#[]⟩ : ByteArray)) := (blk_cell BK376.out 0).trans rfl
   have hfs26 := blk_frozen BK376.out 0
   have hns26_0 := NB364_376.out
   have hns26_1 := NB368_376.out
   have hms26_0 := NB376_364.out
   have hms26_1 := NB376_368.out
   have hs27 : w25.cell? ⟨gb376, 1, none⟩ = some (.int .i64 0) := (blk_cell BK376.out 1).trans rfl
   have hfs27 := blk_frozen BK376.out 1
   have hns27_0 := NB364_376.out
   have hns27_1 := NB368_376.out
   have hms27_0 := NB376_364.out
   have hms27_1 := NB376_368.out
   have hs28 : w25.cell? ⟨gb376, 2, none⟩ = some (.int .i64 0) := (blk_cell BK376.out 2).trans rfl
   have hfs28 := blk_frozen BK376.out 2
   have hns28_0 := NB364_376.out
   have hns28_1 := NB368_376.out
   have hms28_0 := NB376_364.out
   have hms28_1 := NB376_368.out
   have hs29 : w25.cell? ⟨gb376, 3, none⟩ = some (.int .i64 0) := (blk_cell BK376.out 3).trans rfl
   have hfs29 := blk_frozen BK376.out 3
   have hns29_0 := NB364_376.out
   have hns29_1 := NB368_376.out
   have hms29_0 := NB376_364.out
   have hms29_1 := NB376_368.out
   have hs30 : w25.cell? ⟨gb376, 4, none⟩ = some (.int .i64 0) := (blk_cell BK376.out 4).trans rfl
   have hfs30 := blk_frozen BK376.out 4
   have hns30_0 := NB364_376.out
   have hns30_1 := NB368_376.out
   have hms30_0 := NB376_364.out
   have hms30_1 := NB376_368.out
   refine skip_ (w1 := ?_) (by rfl) rfl ?_ ?_
   rotate_left
   ·
    go_simp
    rfl
   refine hK.out _ _ ⟨(xfar5 NB364_376.out (hHeld.1)), (xfar5 NB364_376.out (hHeld.2.1)), (xfar5 NB364_376.out (hHeld.2.2.1)), (xfar5 NB364_376.out (hHeld.2.2.2.1)), (xfar5 NB364_376.out (hHeld.2.2.2.2.1)), (xfar5 NB364_376.out (hHeld.2.2.2.2.2.1)), (xfar5 NB364_376.out (hHeld.2.2.2.2.2.2.1)), (xfar5 NB364_376.out (hHeld.2.2.2.2.2.2.2.1)), (xfar5 NB364_376.out (hHeld.2.2.2.2.2.2.2.2.1)), (xfar5 NB364_376.out (hHeld.2.2.2.2.2.2.2.2.2.1)), (xfar5 NB364_376.out (hHeld.2.2.2.2.2.2.2.2.2.2.1)), (xfar5 NB368_376.out (hHeld.2.2.2.2.2.2.2.2.2.2.2.1)), (xfar5 NB368_376.out (hHeld.2.2.2.2.2.2.2.2.2.2.2.2.1)), (xfar5 NB368_376.out (hHeld.2.2.2.2.2.2.2.2.2.2.2.2.2.1)), (xfar5 NB368_376.out (hHeld.2.2.2.2.2.2.2.2.2.2.2.2.2.2.1)), (xfar5 NB368_376.out (hHeld.2.2.2.2.2.2.2.2.2.2.2.2.2.2.2.1)), (xfar5 NB368_376.out (hHeld.2.2.2.2.2.2.2.2.2.2.2.2.2.2.2.2.1)), (xfar5 NB368_376.out (hHeld.2.2.2.2.2.2.2.2.2.2.2.2.2.2.2.2.2.1)), (xfar5 NB368_376.out (hHeld.2.2.2.2.2.2.2.2.2.2.2.2.2.2.2.2.2.2.1)), (xfar5 (by first | exact xnl hw369_0 GW376.out | simpa only [add_block] using xnl hw369_0 GW376.out) (hHeld.2.2.2.2.2.2.2.2.2.2.2.2.2.2.2.2.2.2.2.1)), (xfar5 (by first | exact xnl hw369_1 GW376.out | simpa only [add_block] using xnl hw369_1 GW376.out) (hHeld.2.2.2.2.2.2.2.2.2.2.2.2.2.2.2.2.2.2.2.2.1)), (xfar5 (by first | exact xnl hw369_2 GW376.out | simpa only [add_block] using xnl hw369_2 GW376.out) (hHeld.2.2.2.2.2.2.2.2.2.2.2.2.2.2.2.2.2.2.2.2.2.1)), (xfar5 (by first | exact xnl hw369_3 GW376.out | simpa only [add_block] using xnl hw369_3 GW376.out) (hHeld.2.2.2.2.2.2.2.2.2.2.2.2.2.2.2.2.2.2.2.2.2.2.1)), (xfar5 (by first | exact xnl hw369_4 GW376.out | simpa only [add_block] using xnl hw369_4 GW376.out) (hHeld.2.2.2.2.2.2.2.2.2.2.2.2.2.2.2.2.2.2.2.2.2.2.2.1)), (xfar5 (by first | exact xnl hw369_5 GW376.out | simpa only [add_block] using xnl hw369_5 GW376.out) (hHeld.2.2.2.2.2.2.2.2.2.2.2.2.2.2.2.2.2.2.2.2.2.2.2.2.1)), (xfar5 (by first | exact xnl hw369_6 GW376.out | simpa only [add_block] using xnl hw369_6 GW376.out) (hHeld.2.2.2.2.2.2.2.2.2.2.2.2.2.2.2.2.2.2.2.2.2.2.2.2.2.1)), (xfar5 (by first | exact xnl hw369_7 GW376.out | simpa only [add_block] using xnl hw369_7 GW376.out) (hHeld.2.2.2.2.2.2.2.2.2.2.2.2.2.2.2.2.2.2.2.2.2.2.2.2.2.2.1)), (xfar5 (by first | exact xnl hw369_8 GW376.out | simpa only [add_block] using xnl hw369_8 GW376.out) (hHeld.2.2.2.2.2.2.2.2.2.2.2.2.2.2.2.2.2.2.2.2.2.2.2.2.2.2.2.1)), (xfar5 (by first | exact xnl hw369_9 GW376.out | simpa only [add_block] using xnl hw369_9 GW376.out) (hHeld.2.2.2.2.2.2.2.2.2.2.2.2.2.2.2.2.2.2.2.2.2.2.2.2.2.2.2.2.1)), (xfar5 (by first | exact xnl hw369_10 GW376.out | simpa only [add_block] using xnl hw369_10 GW376.out) (hHeld.2.2.2.2.2.2.2.2.2.2.2.2.2.2.2.2.2.2.2.2.2.2.2.2.2.2.2.2.2.1)), (xfar5 (by first | exact xnl hw369_11 GW376.out | simpa only [add_block] using xnl hw369_11 GW376.out) (hHeld.2.2.2.2.2.2.2.2.2.2.2.2.2.2.2.2.2.2.2.2.2.2.2.2.2.2.2.2.2.2))⟩ (fun hHeld => ?_)
   clear hK K
   refine pure_ (i := 14) (N := some 9) (v := ?_) (a' := ?_) #[true, true, true, true, true, true, true, true, true, true, true, true, true, true, true] rfl rfl (any_of HT_.out (by kernel_rfl)) (fun _ _ _ h => h) (Or.inl ⟨by rfl, ?_⟩) ?_ ?_
   rotate_left
   ·
    intro w'
    go_simp
    with_reducible rfl
   rotate_left
   ·
    simp only [Act.put, List.setIfInBounds_toArray, List.set_cons_zero, List.set_cons_succ, i64_w, i32_w]
    rfl
   refine done_ (done_of HT_.out (by kernel_rfl)) ?_
   have H := HX_.out
   clear HX_
   by_cases c16 : ((rd_T81 ((rd_T79 l0_6 a1).f5) x26_1).f2) = 2
   rotate_left
   ·
    rw [if_neg c16] at H
    have c16b0 : (((rd_T81 ((rd_T79 l0_6 a1).f5) x26_1).f2) == 2) = false := beq_eq_false_iff_ne.mpr c16
    have c16b1 : (((rd_T81 ((rd_T79 l0_6 a1).f5) x26_1).f2) != 2) = true := bne_iff_ne.mpr c16
    have H' := Aside0.mk H
    clear H
    have hnb67 := NB368_376.out
    have hnc67 := NB376_368.out
    obtain ⟨hcz68_0, hcz68_1, hcz68_2, hcz68_3, hcz68_4, hcz68_5, hcz68_6, hcz68_7⟩ := xbk8 BK368.out
    obtain ⟨hfz68_0, hfz68_1, hfz68_2, hfz68_3, hfz68_4, hfz68_5, hfz68_6, hfz68_7⟩ := xbf8 BK368.out
    try go_wp2
    go_roundg k1
    case measure => have := HK1.out; omega
    case rel => exact ⟨(x5_1), (wrap64 (x26_1 + 1)), (by first | rfl | (simp; done) | (simp [*]; done)), (by first | rfl | (simp; done) | (simp [*]; done)), H', ⟨by have := HK1.out; omega⟩, ⟨by (with_reducible repeat (first | refine blk_far ?_ NB364_376.out _ | refine blk_drewN ?_ _ | refine blk_drew ?_ | refine blk_alloc ?_ _)); (with_reducible repeat (first | refine blk_drewN ?_ _ | refine blk_drew ?_ | refine blk_alloc ?_ _)); exact BK364.out⟩, ⟨by repeat (first | (with_reducible first | exact HB.out | apply below_alloc | apply pw_below_drewN | apply below_drew1 | refine below_set ?_ GE364.out | refine below_set ?_ GE368.out | refine below_set ?_ GE376.out) | exact HB.out)⟩⟩
   rw [if_pos c16] at H
   have c16b0 : (((rd_T81 ((rd_T79 l0_6 a1).f5) x26_1).f2) == 2) = true := beq_iff_eq.mpr c16
   have c16b1 : (((rd_T81 ((rd_T79 l0_6 a1).f5) x26_1).f2) != 2) = false := bne_eq_false_iff_eq.mpr c16
   clear c16
   by_cases c17 : (wrap64 (a0_0 - ((rd_T81 ((rd_T79 l0_6 a1).f5) x26_1).f4))) > t373
   rotate_left
   ·
    rw [if_neg c17] at H
    have c17b0 : decide (t373 < (wrap64 (a0_0 - ((rd_T81 ((rd_T79 l0_6 a1).f5) x26_1).f4)))) = false := decide_eq_false c17
    clear c17
    have H' := Aside0.mk H
    clear H
    have hnb49 := NB368_376.out
    have hnc49 := NB376_368.out
    obtain ⟨hcz50_0, hcz50_1, hcz50_2, hcz50_3, hcz50_4, hcz50_5, hcz50_6, hcz50_7⟩ := xbk8 BK368.out
    obtain ⟨hfz50_0, hfz50_1, hfz50_2, hfz50_3, hfz50_4, hfz50_5, hfz50_6, hfz50_7⟩ := xbf8 BK368.out
    have hnb51 := NB364_376.out
    have hnc51 := NB376_364.out
    obtain ⟨hcz52_0, hcz52_1, hcz52_2, hcz52_3, hcz52_4, hcz52_5, hcz52_6, hcz52_7, hcz52_8, hcz52_9, hcz52_10⟩ := xbk11 BK364.out
    obtain ⟨hfz52_0, hfz52_1, hfz52_2, hfz52_3, hfz52_4, hfz52_5, hfz52_6, hfz52_7, hfz52_8, hfz52_9, hfz52_10⟩ := xbf11 BK364.out
    obtain ⟨hcz53_0, hcz53_1, hcz53_2, hcz53_3, hcz53_4⟩ := xbk5 BK376.out
    obtain ⟨hfz53_0, hfz53_1, hfz53_2, hfz53_3, hfz53_4⟩ := xbf5 BK376.out
    try go_wp2
    go_roundg k1
    case measure => have := HK1.out; omega
    case rel => exact ⟨(x5_1), (wrap64 (x26_1 + 1)), (by first | rfl | (simp; done) | (simp [*]; done)), (by first | rfl | (simp; done) | (simp [*]; done)), H', ⟨by have := HK1.out; omega⟩, ⟨by (with_reducible repeat (first | refine blk_far ?_ NB364_376.out _ | refine blk_drewN ?_ _ | refine blk_drew ?_ | refine blk_alloc ?_ _)); (with_reducible repeat (first | refine blk_drewN ?_ _ | refine blk_drew ?_ | refine blk_alloc ?_ _)); exact BK364.out⟩, ⟨by repeat (first | (with_reducible first | exact HB.out | apply below_alloc | apply pw_below_drewN | apply below_drew1 | refine below_set ?_ GE364.out | refine below_set ?_ GE368.out | refine below_set ?_ GE376.out) | exact HB.out)⟩⟩
   rw [if_pos c17] at H
   have c17b0 : decide (t373 < (wrap64 (a0_0 - ((rd_T81 ((rd_T79 l0_6 a1).f5) x26_1).f4)))) = true := decide_eq_true c17
   clear c17
   have H' := Aside0.mk H
   clear H
   have hnb31 := NB368_376.out
   have hnc31 := NB376_368.out
   obtain ⟨hcz32_0, hcz32_1, hcz32_2, hcz32_3, hcz32_4, hcz32_5, hcz32_6, hcz32_7⟩ := xbk8 BK368.out
   obtain ⟨hfz32_0, hfz32_1, hfz32_2, hfz32_3, hfz32_4, hfz32_5, hfz32_6, hfz32_7⟩ := xbf8 BK368.out
   have hnb33 := NB364_376.out
   have hnc33 := NB376_364.out
   obtain ⟨hcz34_0, hcz34_1, hcz34_2, hcz34_3, hcz34_4, hcz34_5, hcz34_6, hcz34_7, hcz34_8, hcz34_9, hcz34_10⟩ := xbk11 BK364.out
   obtain ⟨hfz34_0, hfz34_1, hfz34_2, hfz34_3, hfz34_4, hfz34_5, hfz34_6, hfz34_7, hfz34_8, hfz34_9, hfz34_10⟩ := xbf11 BK364.out
   obtain ⟨hcz35_0, hcz35_1, hcz35_2, hcz35_3, hcz35_4⟩ := xbk5 BK376.out
   obtain ⟨hfz35_0, hfz35_1, hfz35_2, hfz35_3, hfz35_4⟩ := xbf5 BK376.out
   try go_wp2
   go_roundg k1
   case measure => have := HK1.out; omega
   case rel => exact ⟨(wrap64 (x5_1 + 1)), (wrap64 (x26_1 + 1)), (by first | rfl | (simp; done) | (simp [*]; done)), (by first | rfl | (simp; done) | (simp [*]; done)), H', ⟨by have := HK1.out; omega⟩, ⟨by (with_reducible repeat (first | refine blk_far ?_ NB364_376.out _ | refine blk_drewN ?_ _ | refine blk_drew ?_ | refine blk_alloc ?_ _)); (with_reducible repeat (first | refine blk_drewN ?_ _ | refine blk_drew ?_ | refine blk_alloc ?_ _)); exact BK364.out⟩, ⟨by repeat (first | (with_reducible first | exact HB.out | apply below_alloc | apply pw_below_drewN | apply below_drew1 | refine below_set ?_ GE364.out | refine below_set ?_ GE368.out | refine below_set ?_ GE376.out) | exact HB.out)⟩⟩

/-! ### laws_eqNote: function 32 -/
def laws_eqNote.f (a0_0 : Int) (a0_1 : Int) (a0_2 : Int) (a0_3 : Int) (a0_4 : Int) (a0_5 : Int) (a0_6 : Int) (a0_7 : Int) (a0_8 : Int) (a1_0 : Int) (a1_1 : Int) (a1_2 : Int) (a1_3 : Int) (a1_4 : Int) (a1_5 : Int) (a1_6 : Int) (a1_7 : Int) (a1_8 : Int) : Option (Bool) := if a0_0 = a1_0 then (if a0_1 = a1_1 then (if a0_2 = a1_2 then (if a0_3 = a1_3 then (if a0_4 = a1_4 then (if a0_5 = a1_5 then (if a0_6 = a1_6 then (if a0_7 = a1_7 then (if a0_8 = a1_8 then (some true) else (none)) else (none)) else (none)) else (none)) else (none)) else (none)) else (none)) else (none)) else (none)
set_option maxHeartbeats 8000000 in
set_option maxRecDepth 100000 in
theorem laws_eqNote.calls (a0_0 : Int) (a0_1 : Int) (a0_2 : Int) (a0_3 : Int) (a0_4 : Int) (a0_5 : Int) (a0_6 : Int) (a0_7 : Int) (a0_8 : Int) (a1_0 : Int) (a1_1 : Int) (a1_2 : Int) (a1_3 : Int) (a1_4 : Int) (a1_5 : Int) (a1_6 : Int) (a1_7 : Int) (a1_8 : Int) (r : Bool) (w : World) (h : laws_eqNote.f a0_0 a0_1 a0_2 a0_3 a0_4 a0_5 a0_6 a0_7 a0_8 a1_0 a1_1 a1_2 a1_3 a1_4 a1_5 a1_6 a1_7 a1_8 = some r) :
  Calls Try.prog 32 #[.agg #[.int .i64 a0_0, .int .i64 a0_1, .int .i64 a0_2, .int .i64 a0_3, .int .i64 a0_4, .int .i64 a0_5, .int .i64 a0_6, .int .i64 a0_7, .int .i64 a0_8], .agg #[.int .i64 a1_0, .int .i64 a1_1, .int .i64 a1_2, .int .i64 a1_3, .int .i64 a1_4, .int .i64 a1_5, .int .i64 a1_6, .int .i64 a1_7, .int .i64 a1_8]] w fun e w' => e = .returned (.bool r) ∧ Below w.heap.size w w' := by
 have hu63 := Try.underlying63
 have HB := Aside0.mk (Below.refl w.heap.size w)
 have H : (if a0_0 = a1_0 then (if a0_1 = a1_1 then (if a0_2 = a1_2 then (if a0_3 = a1_3 then (if a0_4 = a1_4 then (if a0_5 = a1_5 then (if a0_6 = a1_6 then (if a0_7 = a1_7 then (if a0_8 = a1_8 then (some true) else (none)) else (none)) else (none)) else (none)) else (none)) else (none)) else (none)) else (none)) else (none)) = some r := h
 clear h
 by_cases c3 : a0_0 = a1_0
 rotate_left
 ·
  rw [if_neg c3] at H
  exact absurd H (by simp)
 rw [if_pos c3] at H
 have c3b0 : (a0_0 == a1_0) = true := beq_iff_eq.mpr c3
 have c3b1 : (a0_0 != a1_0) = false := bne_eq_false_iff_eq.mpr c3
 clear c3
 by_cases c4 : a0_1 = a1_1
 rotate_left
 ·
  rw [if_neg c4] at H
  exact absurd H (by simp)
 rw [if_pos c4] at H
 have c4b0 : (a0_1 == a1_1) = true := beq_iff_eq.mpr c4
 have c4b1 : (a0_1 != a1_1) = false := bne_eq_false_iff_eq.mpr c4
 clear c4
 by_cases c5 : a0_2 = a1_2
 rotate_left
 ·
  rw [if_neg c5] at H
  exact absurd H (by simp)
 rw [if_pos c5] at H
 have c5b0 : (a0_2 == a1_2) = true := beq_iff_eq.mpr c5
 have c5b1 : (a0_2 != a1_2) = false := bne_eq_false_iff_eq.mpr c5
 clear c5
 by_cases c6 : a0_3 = a1_3
 rotate_left
 ·
  rw [if_neg c6] at H
  exact absurd H (by simp)
 rw [if_pos c6] at H
 have c6b0 : (a0_3 == a1_3) = true := beq_iff_eq.mpr c6
 have c6b1 : (a0_3 != a1_3) = false := bne_eq_false_iff_eq.mpr c6
 clear c6
 by_cases c7 : a0_4 = a1_4
 rotate_left
 ·
  rw [if_neg c7] at H
  exact absurd H (by simp)
 rw [if_pos c7] at H
 have c7b0 : (a0_4 == a1_4) = true := beq_iff_eq.mpr c7
 have c7b1 : (a0_4 != a1_4) = false := bne_eq_false_iff_eq.mpr c7
 clear c7
 by_cases c8 : a0_5 = a1_5
 rotate_left
 ·
  rw [if_neg c8] at H
  exact absurd H (by simp)
 rw [if_pos c8] at H
 have c8b0 : (a0_5 == a1_5) = true := beq_iff_eq.mpr c8
 have c8b1 : (a0_5 != a1_5) = false := bne_eq_false_iff_eq.mpr c8
 clear c8
 by_cases c9 : a0_6 = a1_6
 rotate_left
 ·
  rw [if_neg c9] at H
  exact absurd H (by simp)
 rw [if_pos c9] at H
 have c9b0 : (a0_6 == a1_6) = true := beq_iff_eq.mpr c9
 have c9b1 : (a0_6 != a1_6) = false := bne_eq_false_iff_eq.mpr c9
 clear c9
 by_cases c10 : a0_7 = a1_7
 rotate_left
 ·
  rw [if_neg c10] at H
  exact absurd H (by simp)
 rw [if_pos c10] at H
 have c10b0 : (a0_7 == a1_7) = true := beq_iff_eq.mpr c10
 have c10b1 : (a0_7 != a1_7) = false := bne_eq_false_iff_eq.mpr c10
 clear c10
 by_cases c11 : a0_8 = a1_8
 rotate_left
 ·
  rw [if_neg c11] at H
  exact absurd H (by simp)
 rw [if_pos c11] at H
 have c11b0 : (a0_8 == a1_8) = true := beq_iff_eq.mpr c11
 have c11b1 : (a0_8 != a1_8) = false := bne_eq_false_iff_eq.mpr c11
 clear c11
 obtain rfl := Option.some.inj H
 go_enter Try.func32, Try.ntmps32
 go_wp2_with (first | ((with_reducible refine gate_dst (N := 2) rfl ?_); refine box_event ?hg (N := 2) ?hd (cs := #[.int .i64 a0_0, .int .i64 a0_1, .int .i64 a0_2, .int .i64 a0_3, .int .i64 a0_4, .int .i64 a0_5, .int .i64 a0_6, .int .i64 a0_7, .int .i64 a0_8]) (t := 63) ?hr ?_; (case hd => rfl); (case hg => rfl); (case hr => first | (go_simp; done) | (go_simp; rfl)); intro gb377 hg w12 hbox hb; have q_ := xq hb (xb HB.out); have n0_ := Aside0.mk (below_step q_ hb); have n1_ := Aside0.mk (hbox); have n2_ := Aside0.mk ((by rw [hg]; exact (below_size q_) : w.heap.size ≤ gb377)); have n3_ := Aside0.mk ((by rw [hg]; exact (below_size q_) : w.heap.size ≤ gb377)); clear HB; have HB := n0_; have BK377 := n1_; have GW377 := n2_; have GE377 := n3_; clear n0_ n1_ n2_ n3_; clear hb hbox hg) | ((with_reducible refine gate_dst (N := 3) rfl ?_); refine box_event ?hg (N := 3) ?hd (cs := #[.int .i64 a1_0, .int .i64 a1_1, .int .i64 a1_2, .int .i64 a1_3, .int .i64 a1_4, .int .i64 a1_5, .int .i64 a1_6, .int .i64 a1_7, .int .i64 a1_8]) (t := 63) ?hr ?_; (case hd => rfl); (case hg => rfl); (case hr => first | (go_simp; done) | (go_simp; rfl)); intro gb378 hg w13 hbox hb; have q_ := xq hb (xb HB.out); have n0_ := Aside0.mk (blk_below (g := gb377) (xg BK377.out) hb); have n1_ := Aside0.mk (below_step q_ hb); have n2_ := Aside0.mk (hbox); have n3_ := Aside0.mk ((by rw [hg]; exact (below_size q_) : w.heap.size ≤ gb378)); have n4_ := Aside0.mk ((by rw [hg]; exact (below_size q_) : w.heap.size ≤ gb378)); have n5_ := Aside0.mk (xlt (g := gb377) hg (xg BK377.out)); have n6_ := Aside0.mk n5_.out.symm; clear BK377; clear HB; have BK377 := n0_; have HB := n1_; have BK378 := n2_; have GW378 := n3_; have GE378 := n4_; have NB377_378 := n5_; have NB378_377 := n6_; clear n0_ n1_ n2_ n3_ n4_ n5_ n6_; clear hb hbox hg; have hnb14 := NB377_378.out; have hnc14 := NB378_377.out; obtain ⟨hcz15_0, hcz15_1, hcz15_2, hcz15_3, hcz15_4, hcz15_5, hcz15_6, hcz15_7, hcz15_8⟩ := xbk9 BK377.out; obtain ⟨hfz15_0, hfz15_1, hfz15_2, hfz15_3, hfz15_4, hfz15_5, hfz15_6, hfz15_7, hfz15_8⟩ := xbf9 BK377.out; obtain ⟨hcz16_0, hcz16_1, hcz16_2, hcz16_3, hcz16_4, hcz16_5, hcz16_6, hcz16_7, hcz16_8⟩ := xbk9 BK378.out; obtain ⟨hfz16_0, hfz16_1, hfz16_2, hfz16_3, hfz16_4, hfz16_5, hfz16_6, hfz16_7, hfz16_8⟩ := xbf9 BK378.out))
 go_ret
 exact ⟨by first | rfl | (simp [errW_none, errW_some] <;> rfl) | (simp [*, errW_none, errW_some] <;> rfl), by repeat (first | (with_reducible first | exact HB.out | apply below_alloc | apply pw_below_drewN | apply below_drew1 | refine below_set ?_ GE377.out | refine below_set ?_ GE378.out) | exact HB.out)⟩

end Go.Proofs.Ytgcelhejmpcchaa.PFnExactLateOf
