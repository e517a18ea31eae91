-- Written by wip/tools/xprint.py.
import Derived.Test.YtgcelhejmpcchaaPFnExactLateOfx0
import Derived.Test.YtgcelhejmpcchaaPFnExactLateOfx2
import Derived.Test.YtgcelhejmpcchaaPFnExactLateOfx4
import Derived.Test.YtgcelhejmpcchaaPFnExactLateOfx7
import Derived.Test.YtgcelhejmpcchaaPFnExactLateOfx8
import Derived.Test.YtgcelhejmpcchaaPFnExactLateOfx13
namespace Go.Proofs.Ytgcelhejmpcchaa.PFnExactLateOf
open Go.RowKit Go.Proofs.YtgcelhejmpcchaaW.PrintWords Go.Proofs.YtgcelhejmpcchaaW.PrintLast Go.Proofs.YtgcelhejmpcchaaW.PrintMore
attribute [local go_sem] max2_int min2_int max_two min_two max_three min_three max_four min_four   -- for this text's walks alone
set_option linter.unusedVariables false
set_option linter.unusedSimpArgs false

/-! ### laws_FnExactLateOf: function 4 -/
def laws_FnExactLateOf.f (k : Nat) (a0_0 : Int) (l0_1 : List (List Int)) (l0_2 : List (S145)) (a0_3 : Int) (a0_4 : Bool) (l0_5 : List (S111)) (l0_6 : List (S118)) (l0_7 : List (S121)) (l0_8 : List (S65)) (a0_9 : Int) (a0_10 : Int) (a1 : Int) : Option (Bool) := (laws_szWorld.f k a0_0 l0_1 l0_2 a0_3 a0_4 l0_5 l0_6 l0_7 l0_8 a0_9 a0_10 1048576).bind fun t444 => (if t444 < 0 then (some true) else ((laws_toWorld.f k a0_0 l0_1 l0_2 a0_3 a0_4 l0_5 l0_6 l0_7 l0_8 a0_9 a0_10).bind fun bt445 => ((spec_LateOf.f k bt445.1 bt445.2.1 bt445.2.2.1 bt445.2.2.2.1 bt445.2.2.2.2.1 bt445.2.2.2.2.2.1 bt445.2.2.2.2.2.2.1 bt445.2.2.2.2.2.2.2.1 bt445.2.2.2.2.2.2.2.2.1 bt445.2.2.2.2.2.2.2.2.2.1 bt445.2.2.2.2.2.2.2.2.2.2 a1).bind fun t468 => ((laws_toWorld.f k a0_0 l0_1 l0_2 a0_3 a0_4 l0_5 l0_6 l0_7 l0_8 a0_9 a0_10).bind fun bt469 => ((impl_LateOf.f k bt469.1 bt469.2.1 bt469.2.2.1 bt469.2.2.2.1 bt469.2.2.2.2.1 bt469.2.2.2.2.2.1 bt469.2.2.2.2.2.2.1 bt469.2.2.2.2.2.2.2.1 bt469.2.2.2.2.2.2.2.2.1 bt469.2.2.2.2.2.2.2.2.2.1 bt469.2.2.2.2.2.2.2.2.2.2 a1).bind fun t493 => (if t493 = t468 then ((laws_toWorld.f k a0_0 l0_1 l0_2 a0_3 a0_4 l0_5 l0_6 l0_7 l0_8 a0_9 a0_10).bind fun bt494 => ((laws_eqWorld.f k bt469.1 bt469.2.1 bt469.2.2.1 bt469.2.2.2.1 bt469.2.2.2.2.1 bt469.2.2.2.2.2.1 bt469.2.2.2.2.2.2.1 bt469.2.2.2.2.2.2.2.1 bt469.2.2.2.2.2.2.2.2.1 bt469.2.2.2.2.2.2.2.2.2.1 bt469.2.2.2.2.2.2.2.2.2.2 bt494.1 bt494.2.1 bt494.2.2.1 bt494.2.2.2.1 bt494.2.2.2.2.1 bt494.2.2.2.2.2.1 bt494.2.2.2.2.2.2.1 bt494.2.2.2.2.2.2.2.1 bt494.2.2.2.2.2.2.2.2.1 bt494.2.2.2.2.2.2.2.2.2.1 bt494.2.2.2.2.2.2.2.2.2.2).bind fun t517 => (if t517 = true then (some true) else (none)))) else (none)))))))
theorem laws_FnExactLateOf.mono : ∀ a0 a1 a2 a3 a4 a5 a6 a7 a8 a9 a10 a11 k, LeO (laws_FnExactLateOf.f k a0 a1 a2 a3 a4 a5 a6 a7 a8 a9 a10 a11) (laws_FnExactLateOf.f (k + 1) a0 a1 a2 a3 a4 a5 a6 a7 a8 a9 a10 a11) := by
 intro a0 a1 a2 a3 a4 a5 a6 a7 a8 a9 a10 a11 k
 unfold laws_FnExactLateOf.f
 repeat' first
   | (with_reducible exact impl_LateOf.mono _ _ _ _ _ _ _ _ _ _ _ _ _)
   | (with_reducible exact laws_eqWorld.mono _ _ _ _ _ _ _ _ _ _ _ _ _ _ _ _ _ _ _ _ _ _ _)
   | (with_reducible exact laws_szWorld.mono _ _ _ _ _ _ _ _ _ _ _ _ _)
   | (with_reducible exact laws_toWorld.mono _ _ _ _ _ _ _ _ _ _ _ _)
   | (with_reducible exact spec_LateOf.mono _ _ _ _ _ _ _ _ _ _ _ _ _)
   | (with_reducible exact LeO.refl _)
   | (with_reducible exact LeO.none _)
   | (with_reducible refine LeO.ite ?_ ?_)
   | (with_reducible refine LeO.bind ?_ (fun _ => ?_))
   | exact impl_LateOf.mono _ _ _ _ _ _ _ _ _ _ _ _ _
   | exact laws_eqWorld.mono _ _ _ _ _ _ _ _ _ _ _ _ _ _ _ _ _ _ _ _ _ _ _
   | exact laws_szWorld.mono _ _ _ _ _ _ _ _ _ _ _ _ _
   | exact laws_toWorld.mono _ _ _ _ _ _ _ _ _ _ _ _
   | exact spec_LateOf.mono _ _ _ _ _ _ _ _ _ _ _ _ _
   | exact LeO.none _
   | refine LeO.ite ?_ ?_
   | refine LeO.bind ?_ (fun _ => ?_)
set_option maxHeartbeats 8000000 in
set_option maxRecDepth 100000 in
theorem laws_FnExactLateOf.calls (k : Nat) (a0_0 : Int) (A0_1 : Option Addr) (c0_1 : Nat) (l0_1 : List (List Int)) (A0_2 : Option Addr) (c0_2 : Nat) (l0_2 : List (S145)) (a0_3 : Int) (a0_4 : Bool) (A0_5 : Option Addr) (c0_5 : Nat) (l0_5 : List (S111)) (A0_6 : Option Addr) (c0_6 : Nat) (l0_6 : List (S118)) (A0_7 : Option Addr) (c0_7 : Nat) (l0_7 : List (S121)) (A0_8 : Option Addr) (c0_8 : Nat) (l0_8 : List (S65)) (a0_9 : Int) (a0_10 : Int) (a1 : Int) (r : Bool) (w : World) (hr0_1 : Kd.C (Kd.slice 5 (Kd.int .u8)) w A0_1 l0_1.length l0_1) (hc0_1 : l0_1.length ≤ c0_1) (hr0_2 : Kd.C k145 w A0_2 l0_2.length l0_2) (hc0_2 : l0_2.length ≤ c0_2) (hr0_5 : Kd.C k111 w A0_5 l0_5.length l0_5) (hc0_5 : l0_5.length ≤ c0_5) (hr0_6 : Kd.C k118 w A0_6 l0_6.length l0_6) (hc0_6 : l0_6.length ≤ c0_6) (hr0_7 : Kd.C k121 w A0_7 l0_7.length l0_7) (hc0_7 : l0_7.length ≤ c0_7) (hr0_8 : Kd.C k65 w A0_8 l0_8.length l0_8) (hc0_8 : l0_8.length ≤ c0_8) (h : laws_FnExactLateOf.f k a0_0 l0_1 l0_2 a0_3 a0_4 l0_5 l0_6 l0_7 l0_8 a0_9 a0_10 a1 = some r) :
  Calls Try.prog 4 #[.agg #[.int .i64 a0_0, .slice A0_1 l0_1.length c0_1, .slice A0_2 l0_2.length c0_2, .int .i64 a0_3, .bool a0_4, .slice A0_5 l0_5.length c0_5, .slice A0_6 l0_6.length c0_6, .slice A0_7 l0_7.length c0_7, .slice A0_8 l0_8.length c0_8, .int .i64 a0_9, .int .i64 a0_10], .int .i64 a1] w fun e w' => e = .returned (.bool r) ∧ Below w.heap.size w w' := by
 have hu37 := Try.underlying37
 have hu47 := Try.underlying47
 have HR0_1 := Aside0.mk hr0_1
 have HC0_1 := Aside0.mk hc0_1
 clear hr0_1 hc0_1
 have HR0_2 := Aside0.mk hr0_2
 have HC0_2 := Aside0.mk hc0_2
 clear hr0_2 hc0_2
 have HR0_5 := Aside0.mk hr0_5
 have HC0_5 := Aside0.mk hc0_5
 clear hr0_5 hc0_5
 have HR0_6 := Aside0.mk hr0_6
 have HC0_6 := Aside0.mk hc0_6
 clear hr0_6 hc0_6
 have HR0_7 := Aside0.mk hr0_7
 have HC0_7 := Aside0.mk hc0_7
 clear hr0_7 hc0_7
 have HR0_8 := Aside0.mk hr0_8
 have HC0_8 := Aside0.mk hc0_8
 clear hr0_8 hc0_8
 have HB := Aside0.mk (Below.refl w.heap.size w)
 have H : ((laws_szWorld.f k a0_0 l0_1 l0_2 a0_3 a0_4 l0_5 l0_6 l0_7 l0_8 a0_9 a0_10 1048576).bind fun t444 => (if t444 < 0 then (some true) else ((laws_toWorld.f k a0_0 l0_1 l0_2 a0_3 a0_4 l0_5 l0_6 l0_7 l0_8 a0_9 a0_10).bind fun bt445 => ((spec_LateOf.f k bt445.1 bt445.2.1 bt445.2.2.1 bt445.2.2.2.1 bt445.2.2.2.2.1 bt445.2.2.2.2.2.1 bt445.2.2.2.2.2.2.1 bt445.2.2.2.2.2.2.2.1 bt445.2.2.2.2.2.2.2.2.1 bt445.2.2.2.2.2.2.2.2.2.1 bt445.2.2.2.2.2.2.2.2.2.2 a1).bind fun t468 => ((laws_toWorld.f k a0_0 l0_1 l0_2 a0_3 a0_4 l0_5 l0_6 l0_7 l0_8 a0_9 a0_10).bind fun bt469 => ((impl_LateOf.f k bt469.1 bt469.2.1 bt469.2.2.1 bt469.2.2.2.1 bt469.2.2.2.2.1 bt469.2.2.2.2.2.1 bt469.2.2.2.2.2.2.1 bt469.2.2.2.2.2.2.2.1 bt469.2.2.2.2.2.2.2.2.1 bt469.2.2.2.2.2.2.2.2.2.1 bt469.2.2.2.2.2.2.2.2.2.2 a1).bind fun t493 => (if t493 = t468 then ((laws_toWorld.f k a0_0 l0_1 l0_2 a0_3 a0_4 l0_5 l0_6 l0_7 l0_8 a0_9 a0_10).bind fun bt494 => ((laws_eqWorld.f k bt469.1 bt469.2.1 bt469.2.2.1 bt469.2.2.2.1 bt469.2.2.2.2.1 bt469.2.2.2.2.2.1 bt469.2.2.2.2.2.2.1 bt469.2.2.2.2.2.2.2.1 bt469.2.2.2.2.2.2.2.2.1 bt469.2.2.2.2.2.2.2.2.2.1 bt469.2.2.2.2.2.2.2.2.2.2 bt494.1 bt494.2.1 bt494.2.2.1 bt494.2.2.2.1 bt494.2.2.2.2.1 bt494.2.2.2.2.2.1 bt494.2.2.2.2.2.2.1 bt494.2.2.2.2.2.2.2.1 bt494.2.2.2.2.2.2.2.2.1 bt494.2.2.2.2.2.2.2.2.2.1 bt494.2.2.2.2.2.2.2.2.2.2).bind fun t517 => (if t517 = true then (some true) else (none)))) else (none)))))))) = some r := h
 clear h
 replace H := Option.bind_eq_some_iff.mp H
 obtain ⟨t444, A30, H⟩ := H
 (try dsimp only at H)
 have A3 := Aside0.mk A30
 clear A30
 by_cases c4 : t444 < 0
 ·
  rw [if_pos c4] at H
  have c4b0 : decide (t444 < 0) = true := decide_eq_true c4
  clear c4
  obtain rfl := Option.some.inj H
  go_enter Try.func4, Try.ntmps4
  go_wp2_with (first | ((with_reducible refine gate_dst (N := 2) rfl ?_); refine box_event ?hg (N := 2) ?hd (cs := #[.int .i64 a0_0, .slice A0_1 l0_1.length c0_1, .slice A0_2 l0_2.length c0_2, .int .i64 a0_3, .bool a0_4, .slice A0_5 l0_5.length c0_5, .slice A0_6 l0_6.length c0_6, .slice A0_7 l0_7.length c0_7, .slice A0_8 l0_8.length c0_8, .int .i64 a0_9, .int .i64 a0_10]) (t := 37) ?hr ?_; (case hd => rfl); (case hg => rfl); (case hr => first | (go_simp; done) | (go_simp; rfl)); intro gb443 hg w5 hbox hb; have q_ := xq hb (xb HB.out); have n0_ := Aside0.mk (below_step q_ hb); have n1_ := Aside0.mk (hbox); have n2_ := Aside0.mk ((by rw [hg]; exact (below_size q_) : w.heap.size ≤ gb443)); have n3_ := Aside0.mk ((by rw [hg]; exact (below_size q_) : w.heap.size ≤ gb443)); clear HB; have HB := n0_; have BK443 := n1_; have GW443 := n2_; have GE443 := n3_; clear n0_ n1_ n2_ n3_; clear hb hbox hg; obtain ⟨hcz6_0, hcz6_1, hcz6_2, hcz6_3, hcz6_4, hcz6_5, hcz6_6, hcz6_7, hcz6_8, hcz6_9, hcz6_10⟩ := xbk11 BK443.out; obtain ⟨hfz6_0, hfz6_1, hfz6_2, hfz6_3, hfz6_4, hfz6_5, hfz6_6, hfz6_7, hfz6_8, hfz6_9, hfz6_10⟩ := xbf11 BK443.out) | ((with_reducible refine gate_callee (f := 13) rfl ?_); refine goesL_ (some 11) rfl rfl Try.func13 (by kernel_rfl) rfl #[.agg #[.int .i64 a0_0, .slice A0_1 l0_1.length c0_1, .slice A0_2 l0_2.length c0_2, .int .i64 a0_3, .bool a0_4, .slice A0_5 l0_5.length c0_5, .slice A0_6 l0_6.length c0_6, .slice A0_7 l0_7.length c0_7, .slice A0_8 l0_8.length c0_8, .int .i64 a0_9, .int .i64 a0_10], .int .i64 1048576] rfl (by (try simp only [List.map_toArray, List.map_cons, List.map_nil]); first | done | rfl | (simp only [List.length_drop, List.length_take]; rfl)) ?_; (with_reducible refine (laws_szWorld.calls k a0_0 _ _ l0_1 _ _ l0_2 a0_3 a0_4 _ _ l0_5 _ _ l0_6 _ _ l0_7 _ _ l0_8 a0_9 a0_10 1048576 t444 _ ?side1 ?side2 ?side3 ?side4 ?side5 ?side6 ?side7 ?side8 ?side9 ?side10 ?side11 ?side12 A3.out).mono ?_); (case side1 => exact Kd.C_below HR0_1.out (xb HB.out)); (case side2 => exact HC0_1.out); (case side3 => exact Kd.C_below HR0_2.out (xb HB.out)); (case side4 => exact HC0_2.out); (case side5 => exact Kd.C_below HR0_5.out (xb HB.out)); (case side6 => exact HC0_5.out); (case side7 => exact Kd.C_below HR0_6.out (xb HB.out)); (case side8 => exact HC0_6.out); (case side9 => exact Kd.C_below HR0_7.out (xb HB.out)); (case side10 => exact HC0_7.out); (case side11 => exact Kd.C_below HR0_8.out (xb HB.out)); (case side12 => exact HC0_8.out); rintro e w7 ⟨rfl, hb⟩; refine ⟨_, rfl, ?_⟩; have n0_ := Aside0.mk (blk_below (g := gb443) (xg BK443.out) hb); have n1_ := Aside0.mk (below_step (by repeat (first | (with_reducible first | exact HB.out | apply below_alloc | apply pw_below_drewN | apply below_drew1 | refine below_set ?_ GE443.out) | exact HB.out)) hb); clear BK443; clear HB; have BK443 := n0_; have HB := n1_; clear n0_ n1_; (try clear hb); (try clear hb2); (try clear hk); (try clear hi)))
  go_ret
  exact ⟨by first | rfl | (simp [errW_none, errW_some] <;> rfl) | (simp [*, errW_none, errW_some] <;> rfl), by repeat (first | (with_reducible first | exact HB.out | apply below_alloc | apply pw_below_drewN | apply below_drew1 | refine below_set ?_ GE443.out) | exact HB.out)⟩
 rw [if_neg c4] at H
 have c4b0 : decide (t444 < 0) = false := decide_eq_false c4
 clear c4
 replace H := Option.bind_eq_some_iff.mp H
 obtain ⟨⟨t445, t446, t449, t452, t453, t454, t457, t460, t463, t466, t467⟩, A80, H⟩ := H
 (try dsimp only at H)
 have A8 := Aside0.mk A80
 clear A80
 replace H := Option.bind_eq_some_iff.mp H
 obtain ⟨t468, A90, H⟩ := H
 (try dsimp only at H)
 have A9 := Aside0.mk A90
 clear A90
 replace H := Option.bind_eq_some_iff.mp H
 obtain ⟨⟨t469, t470, t473, t476, t477, t478, t481, t484, t487, t490, t491⟩, A100, H⟩ := H
 (try dsimp only at H)
 have A10 := Aside0.mk A100
 clear A100
 replace H := Option.bind_eq_some_iff.mp H
 obtain ⟨t493, A110, H⟩ := H
 (try dsimp only at H)
 have A11 := Aside0.mk A110
 clear A110
 by_cases c12 : t493 = t468
 rotate_left
 ·
  rw [if_neg c12] at H
  exact absurd H (by simp)
 rw [if_pos c12] at H
 have c12b0 : (t493 == t468) = true := beq_iff_eq.mpr c12
 have c12b1 : (t493 != t468) = false := bne_eq_false_iff_eq.mpr c12
 clear c12
 replace H := Option.bind_eq_some_iff.mp H
 obtain ⟨⟨t494, t495, t498, t501, t502, t503, t506, t509, t512, t515, t516⟩, A130, H⟩ := H
 (try dsimp only at H)
 have A13 := Aside0.mk A130
 clear A130
 replace H := Option.bind_eq_some_iff.mp H
 obtain ⟨t517, A140, H⟩ := H
 (try dsimp only at H)
 have A14 := Aside0.mk A140
 clear A140
 by_cases c15 : t517 = true
 rotate_left
 ·
  replace c15 := Bool.eq_false_iff.mpr c15
  subst c15
  have H1 : (none) = some r := by rw [if_neg (show ¬ (false = true) by decide)] at H; exact H
  clear H
  have H := H1
  clear H1
  exact absurd H (by simp)
 subst c15
 have H1 : (some true) = some r := by rw [if_pos rfl] at H; exact H
 clear H
 have H := H1
 clear H1
 obtain rfl := Option.some.inj H
 go_enter Try.func4, Try.ntmps4
 try go_wp2_with (first | ((with_reducible refine gate_dst (N := 2) rfl ?_); refine box_event ?hg (N := 2) ?hd (cs := #[.int .i64 a0_0, .slice A0_1 l0_1.length c0_1, .slice A0_2 l0_2.length c0_2, .int .i64 a0_3, .bool a0_4, .slice A0_5 l0_5.length c0_5, .slice A0_6 l0_6.length c0_6, .slice A0_7 l0_7.length c0_7, .slice A0_8 l0_8.length c0_8, .int .i64 a0_9, .int .i64 a0_10]) (t := 37) ?hr ?_; (case hd => rfl); (case hg => rfl); (case hr => first | (go_simp; done) | (go_simp; rfl)); intro gb443 hg w16 hbox hb; have q_ := xq hb (xb HB.out); have n0_ := Aside0.mk (below_step q_ hb); have n1_ := Aside0.mk (hbox); have n2_ := Aside0.mk ((by rw [hg]; exact (below_size q_) : w.heap.size ≤ gb443)); have n3_ := Aside0.mk ((by rw [hg]; exact (below_size q_) : w.heap.size ≤ gb443)); clear HB; have HB := n0_; have BK443 := n1_; have GW443 := n2_; have GE443 := n3_; clear n0_ n1_ n2_ n3_; clear hb hbox hg; obtain ⟨hcz17_0, hcz17_1, hcz17_2, hcz17_3, hcz17_4, hcz17_5, hcz17_6, hcz17_7, hcz17_8, hcz17_9, hcz17_10⟩ := xbk11 BK443.out; obtain ⟨hfz17_0, hfz17_1, hfz17_2, hfz17_3, hfz17_4, hfz17_5, hfz17_6, hfz17_7, hfz17_8, hfz17_9, hfz17_10⟩ := xbf11 BK443.out) | ((with_reducible refine gate_callee (f := 13) rfl ?_); refine goesL_ (some 11) rfl rfl Try.func13 (by kernel_rfl) rfl #[.agg #[.int .i64 a0_0, .slice A0_1 l0_1.length c0_1, .slice A0_2 l0_2.length c0_2, .int .i64 a0_3, .bool a0_4, .slice A0_5 l0_5.length c0_5, .slice A0_6 l0_6.length c0_6, .slice A0_7 l0_7.length c0_7, .slice A0_8 l0_8.length c0_8, .int .i64 a0_9, .int .i64 a0_10], .int .i64 1048576] rfl (by (try simp only [List.map_toArray, List.map_cons, List.map_nil]); first | done | rfl | (simp only [List.length_drop, List.length_take]; rfl)) ?_; (with_reducible refine (laws_szWorld.calls k a0_0 _ _ l0_1 _ _ l0_2 a0_3 a0_4 _ _ l0_5 _ _ l0_6 _ _ l0_7 _ _ l0_8 a0_9 a0_10 1048576 t444 _ ?side1 ?side2 ?side3 ?side4 ?side5 ?side6 ?side7 ?side8 ?side9 ?side10 ?side11 ?side12 A3.out).mono ?_); (case side1 => exact Kd.C_below HR0_1.out (xb HB.out)); (case side2 => exact HC0_1.out); (case side3 => exact Kd.C_below HR0_2.out (xb HB.out)); (case side4 => exact HC0_2.out); (case side5 => exact Kd.C_below HR0_5.out (xb HB.out)); (case side6 => exact HC0_5.out); (case side7 => exact Kd.C_below HR0_6.out (xb HB.out)); (case side8 => exact HC0_6.out); (case side9 => exact Kd.C_below HR0_7.out (xb HB.out)); (case side10 => exact HC0_7.out); (case side11 => exact Kd.C_below HR0_8.out (xb HB.out)); (case side12 => exact HC0_8.out); rintro e w18 ⟨rfl, hb⟩; refine ⟨_, rfl, ?_⟩; have n0_ := Aside0.mk (blk_below (g := gb443) (xg BK443.out) hb); have n1_ := Aside0.mk (below_step (by repeat (first | (with_reducible first | exact HB.out | apply below_alloc | apply pw_below_drewN | apply below_drew1 | refine below_set ?_ GE443.out) | exact HB.out)) hb); clear BK443; clear HB; have BK443 := n0_; have HB := n1_; clear n0_ n1_; (try clear hb); (try clear hb2); (try clear hk); (try clear hi); obtain ⟨hcz19_0, hcz19_1, hcz19_2, hcz19_3, hcz19_4, hcz19_5, hcz19_6, hcz19_7, hcz19_8, hcz19_9, hcz19_10⟩ := xbk11 BK443.out; obtain ⟨hfz19_0, hfz19_1, hfz19_2, hfz19_3, hfz19_4, hfz19_5, hfz19_6, hfz19_7, hfz19_8, hfz19_9, hfz19_10⟩ := xbf11 BK443.out) | ((with_reducible refine gate_callee (f := 15) rfl ?_); refine goesL_ (some 15) rfl rfl Try.func15 (by kernel_rfl) rfl #[.agg #[.int .i64 a0_0, .slice A0_1 l0_1.length c0_1, .slice A0_2 l0_2.length c0_2, .int .i64 a0_3, .bool a0_4, .slice A0_5 l0_5.length c0_5, .slice A0_6 l0_6.length c0_6, .slice A0_7 l0_7.length c0_7, .slice A0_8 l0_8.length c0_8, .int .i64 a0_9, .int .i64 a0_10]] rfl (by (try simp only [List.map_toArray, List.map_cons, List.map_nil]); first | done | rfl | (simp only [List.length_drop, List.length_take]; rfl)) ?_; (with_reducible refine (laws_toWorld.calls k a0_0 _ _ l0_1 _ _ l0_2 a0_3 a0_4 _ _ l0_5 _ _ l0_6 _ _ l0_7 _ _ l0_8 a0_9 a0_10 t445 t446 t449 t452 t453 t454 t457 t460 t463 t466 t467 _ ?side1 ?side2 ?side3 ?side4 ?side5 ?side6 ?side7 ?side8 ?side9 ?side10 ?side11 ?side12 A8.out).mono ?_); (case side1 => exact Kd.C_below HR0_1.out (xb HB.out)); (case side2 => exact HC0_1.out); (case side3 => exact Kd.C_below HR0_2.out (xb HB.out)); (case side4 => exact HC0_2.out); (case side5 => exact Kd.C_below HR0_5.out (xb HB.out)); (case side6 => exact HC0_5.out); (case side7 => exact Kd.C_below HR0_6.out (xb HB.out)); (case side8 => exact HC0_6.out); (case side9 => exact Kd.C_below HR0_7.out (xb HB.out)); (case side10 => exact HC0_7.out); (case side11 => exact Kd.C_below HR0_8.out (xb HB.out)); (case side12 => exact HC0_8.out); rintro e w20 ⟨v447, v450, v455, v458, v461, v464, rfl, ho0, ho1, ho2, ho3, ho4, ho5, hb⟩; refine ⟨_, rfl, ?_⟩; have q_ := xq hb (by repeat (first | (with_reducible first | exact HB.out | apply below_alloc | apply pw_below_drewN | apply below_drew1 | refine below_set ?_ GE443.out) | exact HB.out)); have n0_ := Aside0.mk (Kd.S_lower ho0 (below_size q_)); have n1_ := Aside0.mk (Kd.S_lower ho1 (below_size q_)); have n2_ := Aside0.mk (Kd.S_lower ho2 (below_size q_)); have n3_ := Aside0.mk (Kd.S_lower ho3 (below_size q_)); have n4_ := Aside0.mk (Kd.S_lower ho4 (below_size q_)); have n5_ := Aside0.mk (Kd.R_lower ho5 (below_size q_)); have n6_ := Aside0.mk (blk_below (g := gb443) (xg BK443.out) hb); have n7_ := Aside0.mk (below_step q_ hb); clear BK443; clear HB; have HO448 := n0_; have HO451 := n1_; have HO456 := n2_; have HO459 := n3_; have HO462 := n4_; have HO465 := n5_; have BK443 := n6_; have HB := n7_; clear n0_ n1_ n2_ n3_ n4_ n5_ n6_ n7_; (try clear hb); (try clear hb2); (try clear hk); (try clear hi); (try clear ho0); (try clear ho1); (try clear ho2); (try clear ho3); (try clear ho4); (try clear ho5); obtain ⟨Ao21, co21, eo21⟩ := Kd.S_slice HO448.out; subst eo21; obtain ⟨Ao22, co22, eo22⟩ := Kd.S_slice HO451.out; subst eo22; obtain ⟨Ao23, co23, eo23⟩ := Kd.S_slice HO456.out; subst eo23; obtain ⟨Ao24, co24, eo24⟩ := Kd.S_slice HO459.out; subst eo24; obtain ⟨Ao25, co25, eo25⟩ := Kd.S_slice HO462.out; subst eo25; obtain ⟨Ao26, co26, eo26⟩ := Kd.R_slice HO465.out; subst eo26) | ((with_reducible refine gate_callee (f := 14) rfl ?_); refine goesL_ (some 17) rfl rfl Try.func14 (by kernel_rfl) rfl #[.agg #[.int .i64 t445, .slice Ao21 t446.length co21, .slice Ao22 t449.length co22, .int .i64 t452, .bool t453, .slice Ao23 t454.length co23, .slice Ao24 t457.length co24, .slice Ao25 t460.length co25, .slice Ao26 t463.length co26, .int .i64 t466, .int .i64 t467], .int .i64 a1] rfl (by (try simp only [List.map_toArray, List.map_cons, List.map_nil]); first | done | rfl | (simp only [List.length_drop, List.length_take]; rfl)) ?_; (with_reducible refine (spec_LateOf.calls k t445 _ _ t446 _ _ t449 t452 t453 _ _ t454 _ _ t457 _ _ t460 _ _ t463 t466 t467 a1 t468 _ ?side1 ?side2 ?side3 ?side4 ?side5 ?side6 ?side7 ?side8 ?side9 ?side10 ?side11 ?side12 A9.out).mono ?_); (case side1 => repeat (first | exact (Kd.S_reads' HO448.out).2.2 | (with_reducible refine Kd.C_alloc ?_ _) | (with_reducible refine Kd.C_drewN ?_ _) | (with_reducible refine Kd.C_drew ?_))); (case side2 => exact (Kd.S_reads' HO448.out).2.1); (case side3 => repeat (first | exact (Kd.S_reads' HO451.out).2.2 | (with_reducible refine Kd.C_alloc ?_ _) | (with_reducible refine Kd.C_drewN ?_ _) | (with_reducible refine Kd.C_drew ?_))); (case side4 => exact (Kd.S_reads' HO451.out).2.1); (case side5 => repeat (first | exact (Kd.S_reads' HO456.out).2.2 | (with_reducible refine Kd.C_alloc ?_ _) | (with_reducible refine Kd.C_drewN ?_ _) | (with_reducible refine Kd.C_drew ?_))); (case side6 => exact (Kd.S_reads' HO456.out).2.1); (case side7 => repeat (first | exact (Kd.S_reads' HO459.out).2.2 | (with_reducible refine Kd.C_alloc ?_ _) | (with_reducible refine Kd.C_drewN ?_ _) | (with_reducible refine Kd.C_drew ?_))); (case side8 => exact (Kd.S_reads' HO459.out).2.1); (case side9 => repeat (first | exact (Kd.S_reads' HO462.out).2.2 | (with_reducible refine Kd.C_alloc ?_ _) | (with_reducible refine Kd.C_drewN ?_ _) | (with_reducible refine Kd.C_drew ?_))); (case side10 => exact (Kd.S_reads' HO462.out).2.1); (case side11 => repeat (first | exact (Kd.R_reads' HO465.out).2.2 | (with_reducible refine Kd.C_alloc ?_ _) | (with_reducible refine Kd.C_drewN ?_ _) | (with_reducible refine Kd.C_drew ?_))); (case side12 => exact (Kd.R_reads' HO465.out).2.1); rintro e w27 ⟨rfl, hb⟩; refine ⟨_, rfl, ?_⟩; have n0_ := Aside0.mk (Kd.S_below (by (with_reducible repeat (first | apply Kd.S_alloc | apply Kd.S_drewN | apply Kd.S_drew)); exact HO448.out) hb); have n1_ := Aside0.mk (Kd.S_below (by (with_reducible repeat (first | apply Kd.S_alloc | apply Kd.S_drewN | apply Kd.S_drew)); exact HO451.out) hb); have n2_ := Aside0.mk (Kd.S_below (by (with_reducible repeat (first | apply Kd.S_alloc | apply Kd.S_drewN | apply Kd.S_drew)); exact HO456.out) hb); have n3_ := Aside0.mk (Kd.S_below (by (with_reducible repeat (first | apply Kd.S_alloc | apply Kd.S_drewN | apply Kd.S_drew)); exact HO459.out) hb); have n4_ := Aside0.mk (Kd.S_below (by (with_reducible repeat (first | apply Kd.S_alloc | apply Kd.S_drewN | apply Kd.S_drew)); exact HO462.out) hb); have n5_ := Aside0.mk (Kd.R_below (by (with_reducible repeat (first | apply Kd.R_alloc | apply Kd.R_drewN | apply Kd.R_drew)); exact HO465.out) hb); have n6_ := Aside0.mk (blk_below (g := gb443) (xg BK443.out) hb); have n7_ := Aside0.mk (below_step (by repeat (first | (with_reducible first | exact HB.out | apply below_alloc | apply pw_below_drewN | apply below_drew1 | refine below_set ?_ GE443.out) | exact HB.out)) hb); clear HO448; clear HO451; clear HO456; clear HO459; clear HO462; clear HO465; clear BK443; clear HB; have HO448 := n0_; have HO451 := n1_; have HO456 := n2_; have HO459 := n3_; have HO462 := n4_; have HO465 := n5_; have BK443 := n6_; have HB := n7_; clear n0_ n1_ n2_ n3_ n4_ n5_ n6_ n7_; (try clear hb); (try clear hb2); (try clear hk); (try clear hi); obtain ⟨hcz28_0, hcz28_1, hcz28_2, hcz28_3, hcz28_4, hcz28_5, hcz28_6, hcz28_7, hcz28_8, hcz28_9, hcz28_10⟩ := xbk11 BK443.out; obtain ⟨hfz28_0, hfz28_1, hfz28_2, hfz28_3, hfz28_4, hfz28_5, hfz28_6, hfz28_7, hfz28_8, hfz28_9, hfz28_10⟩ := xbf11 BK443.out) | ((with_reducible refine gate_callee (f := 15) rfl ?_); refine goesL_ (some 19) rfl rfl Try.func15 (by kernel_rfl) rfl #[.agg #[.int .i64 a0_0, .slice A0_1 l0_1.length c0_1, .slice A0_2 l0_2.length c0_2, .int .i64 a0_3, .bool a0_4, .slice A0_5 l0_5.length c0_5, .slice A0_6 l0_6.length c0_6, .slice A0_7 l0_7.length c0_7, .slice A0_8 l0_8.length c0_8, .int .i64 a0_9, .int .i64 a0_10]] rfl (by (try simp only [List.map_toArray, List.map_cons, List.map_nil]); first | done | rfl | (simp only [List.length_drop, List.length_take]; rfl)) ?_; (with_reducible refine (laws_toWorld.calls k a0_0 _ _ l0_1 _ _ l0_2 a0_3 a0_4 _ _ l0_5 _ _ l0_6 _ _ l0_7 _ _ l0_8 a0_9 a0_10 t469 t470 t473 t476 t477 t478 t481 t484 t487 t490 t491 _ ?side1 ?side2 ?side3 ?side4 ?side5 ?side6 ?side7 ?side8 ?side9 ?side10 ?side11 ?side12 A10.out).mono ?_); (case side1 => exact Kd.C_below HR0_1.out (xb HB.out)); (case side2 => exact HC0_1.out); (case side3 => exact Kd.C_below HR0_2.out (xb HB.out)); (case side4 => exact HC0_2.out); (case side5 => exact Kd.C_below HR0_5.out (xb HB.out)); (case side6 => exact HC0_5.out); (case side7 => exact Kd.C_below HR0_6.out (xb HB.out)); (case side8 => exact HC0_6.out); (case side9 => exact Kd.C_below HR0_7.out (xb HB.out)); (case side10 => exact HC0_7.out); (case side11 => exact Kd.C_below HR0_8.out (xb HB.out)); (case side12 => exact HC0_8.out); rintro e w29 ⟨v471, v474, v479, v482, v485, v488, rfl, ho0, ho1, ho2, ho3, ho4, ho5, hb⟩; refine ⟨_, rfl, ?_⟩; have q_ := xq hb (by repeat (first | (with_reducible first | exact HB.out | apply below_alloc | apply pw_below_drewN | apply below_drew1 | refine below_set ?_ GE443.out) | exact HB.out)); have n0_ := Aside0.mk (Kd.S_elder' (by (with_reducible repeat (first | apply Kd.S_alloc | apply Kd.S_drewN | apply Kd.S_drew)); exact HO448.out) (Kd.S_base ho0) hb); have n1_ := Aside0.mk (Kd.S_elder' (by (with_reducible repeat (first | apply Kd.S_alloc | apply Kd.S_drewN | apply Kd.S_drew)); exact HO451.out) (Kd.S_base ho1) hb); have n2_ := Aside0.mk (Kd.S_elder' (by (with_reducible repeat (first | apply Kd.S_alloc | apply Kd.S_drewN | apply Kd.S_drew)); exact HO456.out) (Kd.S_base ho2) hb); have n3_ := Aside0.mk (Kd.S_elder' (by (with_reducible repeat (first | apply Kd.S_alloc | apply Kd.S_drewN | apply Kd.S_drew)); exact HO459.out) (Kd.S_base ho3) hb); have n4_ := Aside0.mk (Kd.S_elder' (by (with_reducible repeat (first | apply Kd.S_alloc | apply Kd.S_drewN | apply Kd.S_drew)); exact HO462.out) (Kd.S_base ho4) hb); have n5_ := Aside0.mk (Kd.R_elder' (by (with_reducible repeat (first | apply Kd.R_alloc | apply Kd.R_drewN | apply Kd.R_drew)); exact HO465.out) (Kd.R_base ho5) hb); have n6_ := Aside0.mk (Kd.S_lower (Kd.S_new' ho0 (Kd.S_lt (by (with_reducible repeat (first | apply Kd.S_alloc | apply Kd.S_drewN | apply Kd.S_drew)); exact HO448.out))) (below_size q_)); have n7_ := Aside0.mk (Kd.S_lower (Kd.S_new' ho1 (Kd.S_lt (by (with_reducible repeat (first | apply Kd.S_alloc | apply Kd.S_drewN | apply Kd.S_drew)); exact HO451.out))) (below_size q_)); have n8_ := Aside0.mk (Kd.S_lower (Kd.S_new' ho2 (Kd.S_lt (by (with_reducible repeat (first | apply Kd.S_alloc | apply Kd.S_drewN | apply Kd.S_drew)); exact HO456.out))) (below_size q_)); have n9_ := Aside0.mk (Kd.S_lower (Kd.S_new' ho3 (Kd.S_lt (by (with_reducible repeat (first | apply Kd.S_alloc | apply Kd.S_drewN | apply Kd.S_drew)); exact HO459.out))) (below_size q_)); have n10_ := Aside0.mk (Kd.S_lower (Kd.S_new' ho4 (Kd.S_lt (by (with_reducible repeat (first | apply Kd.S_alloc | apply Kd.S_drewN | apply Kd.S_drew)); exact HO462.out))) (below_size q_)); have n11_ := Aside0.mk (Kd.R_lower (Kd.R_new' ho5 (Kd.R_lt (by (with_reducible repeat (first | apply Kd.R_alloc | apply Kd.R_drewN | apply Kd.R_drew)); exact HO465.out))) (below_size q_)); have n12_ := Aside0.mk (blk_below (g := gb443) (xg BK443.out) hb); have n13_ := Aside0.mk (below_step q_ hb); clear HO448; clear HO451; clear HO456; clear HO459; clear HO462; clear HO465; clear BK443; clear HB; have HO448 := n0_; have HO451 := n1_; have HO456 := n2_; have HO459 := n3_; have HO462 := n4_; have HO465 := n5_; have HO472 := n6_; have HO475 := n7_; have HO480 := n8_; have HO483 := n9_; have HO486 := n10_; have HO489 := n11_; have BK443 := n12_; have HB := n13_; clear n0_ n1_ n2_ n3_ n4_ n5_ n6_ n7_ n8_ n9_ n10_ n11_ n12_ n13_; (try clear hb); (try clear hb2); (try clear hk); (try clear hi); (try clear ho0); (try clear ho1); (try clear ho2); (try clear ho3); (try clear ho4); (try clear ho5)) | ((with_reducible refine gate_dst (N := 7) rfl ?_); refine box_event ?hg (N := 7) ?hd (cs := #[.int .i64 0, .slice none 0 0, .slice none 0 0, .int .i64 0, .bool false, .slice none 0 0, .slice none 0 0, .slice none 0 0, .slice none 0 0, .int .i64 0, .int .i64 0]) (t := 47) ?hr ?_; (case hd => rfl); (case hg => rfl); (case hr => first | (go_simp; done) | (go_simp; rfl)); intro gb492 hg w30 hbox hb; have q_ := xq hb (xb HB.out); have n0_ := Aside0.mk (Kd.S_below (by (with_reducible repeat (first | apply Kd.S_alloc | apply Kd.S_drewN | apply Kd.S_drew)); exact HO448.out) hb); have n1_ := Aside0.mk (Kd.S_below (by (with_reducible repeat (first | apply Kd.S_alloc | apply Kd.S_drewN | apply Kd.S_drew)); exact HO451.out) hb); have n2_ := Aside0.mk (Kd.S_below (by (with_reducible repeat (first | apply Kd.S_alloc | apply Kd.S_drewN | apply Kd.S_drew)); exact HO456.out) hb); have n3_ := Aside0.mk (Kd.S_below (by (with_reducible repeat (first | apply Kd.S_alloc | apply Kd.S_drewN | apply Kd.S_drew)); exact HO459.out) hb); have n4_ := Aside0.mk (Kd.S_below (by (with_reducible repeat (first | apply Kd.S_alloc | apply Kd.S_drewN | apply Kd.S_drew)); exact HO462.out) hb); have n5_ := Aside0.mk (Kd.R_below (by (with_reducible repeat (first | apply Kd.R_alloc | apply Kd.R_drewN | apply Kd.R_drew)); exact HO465.out) hb); have n6_ := Aside0.mk (Kd.S_below (by (with_reducible repeat (first | apply Kd.S_alloc | apply Kd.S_drewN | apply Kd.S_drew)); exact HO472.out) hb); have n7_ := Aside0.mk (Kd.S_below (by (with_reducible repeat (first | apply Kd.S_alloc | apply Kd.S_drewN | apply Kd.S_drew)); exact HO475.out) hb); have n8_ := Aside0.mk (Kd.S_below (by (with_reducible repeat (first | apply Kd.S_alloc | apply Kd.S_drewN | apply Kd.S_drew)); exact HO480.out) hb); have n9_ := Aside0.mk (Kd.S_below (by (with_reducible repeat (first | apply Kd.S_alloc | apply Kd.S_drewN | apply Kd.S_drew)); exact HO483.out) hb); have n10_ := Aside0.mk (Kd.S_below (by (with_reducible repeat (first | apply Kd.S_alloc | apply Kd.S_drewN | apply Kd.S_drew)); exact HO486.out) hb); have n11_ := Aside0.mk (Kd.R_below (by (with_reducible repeat (first | apply Kd.R_alloc | apply Kd.R_drewN | apply Kd.R_drew)); exact HO489.out) hb); have n12_ := Aside0.mk (blk_below (g := gb443) (xg BK443.out) hb); have n13_ := Aside0.mk (below_step q_ hb); have n14_ := Aside0.mk (hbox); have n15_ := Aside0.mk ((by rw [hg]; exact (below_size q_) : w.heap.size ≤ gb492)); have n16_ := Aside0.mk ((by rw [hg]; exact (below_size q_) : w.heap.size ≤ gb492)); have n17_ := Aside0.mk (xlt (g := gb443) hg (xg BK443.out)); have n18_ := Aside0.mk n17_.out.symm; clear HO448; clear HO451; clear HO456; clear HO459; clear HO462; clear HO465; clear HO472; clear HO475; clear HO480; clear HO483; clear HO486; clear HO489; clear BK443; clear HB; have HO448 := n0_; have HO451 := n1_; have HO456 := n2_; have HO459 := n3_; have HO462 := n4_; have HO465 := n5_; have HO472 := n6_; have HO475 := n7_; have HO480 := n8_; have HO483 := n9_; have HO486 := n10_; have HO489 := n11_; have BK443 := n12_; have HB := n13_; have BK492 := n14_; have GW492 := n15_; have GE492 := n16_; have NB443_492 := n17_; have NB492_443 := n18_; clear n0_ n1_ n2_ n3_ n4_ n5_ n6_ n7_ n8_ n9_ n10_ n11_ n12_ n13_ n14_ n15_ n16_ n17_ n18_; clear hb hbox hg; have hnb31 := NB492_443.out; have hnc31 := NB443_492.out; obtain ⟨hcz32_0, hcz32_1, hcz32_2, hcz32_3, hcz32_4, hcz32_5, hcz32_6, hcz32_7, hcz32_8, hcz32_9, hcz32_10⟩ := xbk11 BK492.out; obtain ⟨hfz32_0, hfz32_1, hfz32_2, hfz32_3, hfz32_4, hfz32_5, hfz32_6, hfz32_7, hfz32_8, hfz32_9, hfz32_10⟩ := xbf11 BK492.out; obtain ⟨Ao33, co33, eo33⟩ := Kd.S_slice HO472.out; subst eo33; obtain ⟨Ao34, co34, eo34⟩ := Kd.S_slice HO475.out; subst eo34; obtain ⟨Ao35, co35, eo35⟩ := Kd.S_slice HO480.out; subst eo35; obtain ⟨Ao36, co36, eo36⟩ := Kd.S_slice HO483.out; subst eo36; obtain ⟨Ao37, co37, eo37⟩ := Kd.S_slice HO486.out; subst eo37; obtain ⟨Ao38, co38, eo38⟩ := Kd.R_slice HO489.out; subst eo38) | ((with_reducible refine gate_callee (f := 16) rfl ?_); refine goesL_ (some 22) rfl rfl Try.func16 (by kernel_rfl) rfl #[.agg #[.int .i64 t469, .slice Ao33 t470.length co33, .slice Ao34 t473.length co34, .int .i64 t476, .bool t477, .slice Ao35 t478.length co35, .slice Ao36 t481.length co36, .slice Ao37 t484.length co37, .slice Ao38 t487.length co38, .int .i64 t490, .int .i64 t491], .int .i64 a1] rfl (by (try simp only [List.map_toArray, List.map_cons, List.map_nil]); first | done | rfl | (simp only [List.length_drop, List.length_take]; rfl)) ?_; (with_reducible refine (impl_LateOf.calls k t469 _ _ t470 _ _ t473 t476 t477 _ _ t478 _ _ t481 _ _ t484 _ _ t487 t490 t491 a1 t493 _ ?side1 ?side2 ?side3 ?side4 ?side5 ?side6 ?side7 ?side8 ?side9 ?side10 ?side11 ?side12 A11.out).mono ?_); (case side1 => refine (Kd.S_reads' (e := 99) (base := w.heap.size) (ok := fun k_ => (True ∧ some k_ ≠ (.slice Ao21 t446.length co21 : Value).ownBlock)) (n := t470.length) (c := co33) ?_).2.2; exact (by (with_reducible repeat (first | apply Kd.S_alloc | apply Kd.S_drewN | apply Kd.S_drew)); exact (Kd.S_mono (xSf11 (Kd.S_types HO472.out BK492.out (by decide)) (fun _ hk => hk.2)) (fun _ h_ => h_.1)))); (case side2 => exact (Kd.S_reads' HO472.out).2.1); (case side3 => refine (Kd.S_reads' (e := 150) (base := w.heap.size) (ok := fun k_ => (True ∧ some k_ ≠ (.slice Ao22 t449.length co22 : Value).ownBlock)) (n := t473.length) (c := co34) ?_).2.2; exact (by (with_reducible repeat (first | apply Kd.S_alloc | apply Kd.S_drewN | apply Kd.S_drew)); exact (Kd.S_mono (xSf11 (Kd.S_types HO475.out BK492.out (by decide)) (fun _ hk => hk.2)) (fun _ h_ => h_.1)))); (case side4 => exact (Kd.S_reads' HO475.out).2.1); (case side5 => refine (Kd.S_reads' (e := 101) (base := w.heap.size) (ok := fun k_ => (True ∧ some k_ ≠ (.slice Ao23 t454.length co23 : Value).ownBlock)) (n := t478.length) (c := co35) ?_).2.2; exact (by (with_reducible repeat (first | apply Kd.S_alloc | apply Kd.S_drewN | apply Kd.S_drew)); exact (Kd.S_mono (xSf11 (Kd.S_types HO480.out BK492.out (by decide)) (fun _ hk => hk.2)) (fun _ h_ => h_.1)))); (case side6 => exact (Kd.S_reads' HO480.out).2.1); (case side7 => refine (Kd.S_reads' (e := 79) (base := w.heap.size) (ok := fun k_ => (True ∧ some k_ ≠ (.slice Ao24 t457.length co24 : Value).ownBlock)) (n := t481.length) (c := co36) ?_).2.2; exact (by (with_reducible repeat (first | apply Kd.S_alloc | apply Kd.S_drewN | apply Kd.S_drew)); exact (Kd.S_mono (xSf11 (Kd.S_types HO483.out BK492.out (by decide)) (fun _ hk => hk.2)) (fun _ h_ => h_.1)))); (case side8 => exact (Kd.S_reads' HO483.out).2.1); (case side9 => refine (Kd.S_reads' (e := 126) (base := w.heap.size) (ok := fun k_ => (True ∧ some k_ ≠ (.slice Ao25 t460.length co25 : Value).ownBlock)) (n := t484.length) (c := co37) ?_).2.2; exact (by (with_reducible repeat (first | apply Kd.S_alloc | apply Kd.S_drewN | apply Kd.S_drew)); exact (Kd.S_mono (xSf11 (Kd.S_types HO486.out BK492.out (by decide)) (fun _ hk => hk.2)) (fun _ h_ => h_.1)))); (case side10 => exact (Kd.S_reads' HO486.out).2.1); (case side11 => refine (Kd.R_reads' (e := 63) (base := w.heap.size) (ok := fun k_ => (True ∧ some k_ ≠ (.slice Ao26 t463.length co26 : Value).ownBlock)) (n := t487.length) (c := co38) ?_).2.2; exact (by (with_reducible repeat (first | apply Kd.R_alloc | apply Kd.R_drewN | apply Kd.R_drew)); exact (Kd.R_mono (xRf11 (Kd.R_types HO489.out BK492.out (by decide)) (fun _ hk => hk.2)) (fun _ h_ => h_.1)))); (case side12 => exact (Kd.R_reads' HO489.out).2.1); rintro e w39 ⟨rfl, hb⟩; refine ⟨_, rfl, ?_⟩; have n0_ := Aside0.mk (Kd.S_below (by (with_reducible repeat (first | apply Kd.S_alloc | apply Kd.S_drewN | apply Kd.S_drew)); exact (Kd.S_mono (xSf11 (Kd.S_types HO448.out BK492.out (by decide)) (fun _ hk => hk.2)) (fun _ h_ => h_.1))) hb); have n1_ := Aside0.mk (Kd.S_below (by (with_reducible repeat (first | apply Kd.S_alloc | apply Kd.S_drewN | apply Kd.S_drew)); exact (Kd.S_mono (xSf11 (Kd.S_types HO451.out BK492.out (by decide)) (fun _ hk => hk.2)) (fun _ h_ => h_.1))) hb); have n2_ := Aside0.mk (Kd.S_below (by (with_reducible repeat (first | apply Kd.S_alloc | apply Kd.S_drewN | apply Kd.S_drew)); exact (Kd.S_mono (xSf11 (Kd.S_types HO456.out BK492.out (by decide)) (fun _ hk => hk.2)) (fun _ h_ => h_.1))) hb); have n3_ := Aside0.mk (Kd.S_below (by (with_reducible repeat (first | apply Kd.S_alloc | apply Kd.S_drewN | apply Kd.S_drew)); exact (Kd.S_mono (xSf11 (Kd.S_types HO459.out BK492.out (by decide)) (fun _ hk => hk.2)) (fun _ h_ => h_.1))) hb); have n4_ := Aside0.mk (Kd.S_below (by (with_reducible repeat (first | apply Kd.S_alloc | apply Kd.S_drewN | apply Kd.S_drew)); exact (Kd.S_mono (xSf11 (Kd.S_types HO462.out BK492.out (by decide)) (fun _ hk => hk.2)) (fun _ h_ => h_.1))) hb); have n5_ := Aside0.mk (Kd.R_below (by (with_reducible repeat (first | apply Kd.R_alloc | apply Kd.R_drewN | apply Kd.R_drew)); exact (Kd.R_mono (xRf11 (Kd.R_types HO465.out BK492.out (by decide)) (fun _ hk => hk.2)) (fun _ h_ => h_.1))) hb); have n6_ := Aside0.mk (Kd.S_below (by (with_reducible repeat (first | apply Kd.S_alloc | apply Kd.S_drewN | apply Kd.S_drew)); exact (Kd.S_mono (xSf11 (Kd.S_types HO472.out BK492.out (by decide)) (fun _ hk => hk.2)) (fun _ h_ => h_.1))) hb); have n7_ := Aside0.mk (Kd.S_below (by (with_reducible repeat (first | apply Kd.S_alloc | apply Kd.S_drewN | apply Kd.S_drew)); exact (Kd.S_mono (xSf11 (Kd.S_types HO475.out BK492.out (by decide)) (fun _ hk => hk.2)) (fun _ h_ => h_.1))) hb); have n8_ := Aside0.mk (Kd.S_below (by (with_reducible repeat (first | apply Kd.S_alloc | apply Kd.S_drewN | apply Kd.S_drew)); exact (Kd.S_mono (xSf11 (Kd.S_types HO480.out BK492.out (by decide)) (fun _ hk => hk.2)) (fun _ h_ => h_.1))) hb); have n9_ := Aside0.mk (Kd.S_below (by (with_reducible repeat (first | apply Kd.S_alloc | apply Kd.S_drewN | apply Kd.S_drew)); exact (Kd.S_mono (xSf11 (Kd.S_types HO483.out BK492.out (by decide)) (fun _ hk => hk.2)) (fun _ h_ => h_.1))) hb); have n10_ := Aside0.mk (Kd.S_below (by (with_reducible repeat (first | apply Kd.S_alloc | apply Kd.S_drewN | apply Kd.S_drew)); exact (Kd.S_mono (xSf11 (Kd.S_types HO486.out BK492.out (by decide)) (fun _ hk => hk.2)) (fun _ h_ => h_.1))) hb); have n11_ := Aside0.mk (Kd.R_below (by (with_reducible repeat (first | apply Kd.R_alloc | apply Kd.R_drewN | apply Kd.R_drew)); exact (Kd.R_mono (xRf11 (Kd.R_types HO489.out BK492.out (by decide)) (fun _ hk => hk.2)) (fun _ h_ => h_.1))) hb); have n12_ := Aside0.mk (blk_below (g := gb443) (o := .cells #[.int .i64 a0_0, .slice A0_1 l0_1.length c0_1, .slice A0_2 l0_2.length c0_2, .int .i64 a0_3, .bool a0_4, .slice A0_5 l0_5.length c0_5, .slice A0_6 l0_6.length c0_6, .slice A0_7 l0_7.length c0_7, .slice A0_8 l0_8.length c0_8, .int .i64 a0_9, .int .i64 a0_10] 37 (0, 0)) (by (with_reducible repeat (first | refine blk_far ?_ NB443_492.out _ | refine blk_drewN ?_ _ | refine blk_drew ?_ | refine blk_alloc ?_ _)); (with_reducible repeat (first | refine blk_drewN ?_ _ | refine blk_drew ?_ | refine blk_alloc ?_ _)); exact BK443.out) hb); have n13_ := Aside0.mk (blk_below (g := gb492) (o := .cells #[.int .i64 t469, .slice Ao33 t470.length co33, .slice Ao34 t473.length co34, .int .i64 t476, .bool t477, .slice Ao35 t478.length co35, .slice Ao36 t481.length co36, .slice Ao37 t484.length co37, .slice Ao38 t487.length co38, .int .i64 t490, .int .i64 t491] 47 (0, 0)) (by (refine xput11 (cs := ?cs1) ?h1 ?e1; (case h1 => ((with_reducible repeat (first | refine blk_drewN ?_ _ | refine blk_drew ?_ | refine blk_alloc ?_ _)); exact BK492.out)); simp only [List.setIfInBounds_toArray, List.set_cons_zero, List.set_cons_succ])) hb); have n14_ := Aside0.mk (below_step (by repeat (first | (with_reducible first | exact HB.out | apply below_alloc | apply pw_below_drewN | apply below_drew1 | refine below_set ?_ GE443.out | refine below_set ?_ GE492.out) | exact HB.out)) hb); clear HO448; clear HO451; clear HO456; clear HO459; clear HO462; clear HO465; clear HO472; clear HO475; clear HO480; clear HO483; clear HO486; clear HO489; clear BK443; clear BK492; clear HB; have HO448 := n0_; have HO451 := n1_; have HO456 := n2_; have HO459 := n3_; have HO462 := n4_; have HO465 := n5_; have HO472 := n6_; have HO475 := n7_; have HO480 := n8_; have HO483 := n9_; have HO486 := n10_; have HO489 := n11_; have BK443 := n12_; have BK492 := n13_; have HB := n14_; clear n0_ n1_ n2_ n3_ n4_ n5_ n6_ n7_ n8_ n9_ n10_ n11_ n12_ n13_ n14_; (try clear hb); (try clear hb2); (try clear hk); (try clear hi)))
 have n0_ := Aside0.mk (Kd.S_drew HO448.out)
 have n1_ := Aside0.mk (Kd.S_drew HO451.out)
 have n2_ := Aside0.mk (Kd.S_drew HO456.out)
 have n3_ := Aside0.mk (Kd.S_drew HO459.out)
 have n4_ := Aside0.mk (Kd.S_drew HO462.out)
 have n5_ := Aside0.mk (Kd.R_drew HO465.out)
 have n6_ := Aside0.mk (Kd.S_drew HO472.out)
 have n7_ := Aside0.mk (Kd.S_drew HO475.out)
 have n8_ := Aside0.mk (Kd.S_drew HO480.out)
 have n9_ := Aside0.mk (Kd.S_drew HO483.out)
 have n10_ := Aside0.mk (Kd.S_drew HO486.out)
 have n11_ := Aside0.mk (Kd.R_drew HO489.out)
 have n12_ := Aside0.mk (blk_drew BK443.out)
 have n13_ := Aside0.mk (blk_drew BK492.out)
 have n14_ := Aside0.mk (below_drew1 HB.out)
 clear HO448
 clear HO451
 clear HO456
 clear HO459
 clear HO462
 clear HO465
 clear HO472
 clear HO475
 clear HO480
 clear HO483
 clear HO486
 clear HO489
 clear BK443
 clear BK492
 clear HB
 have HO448 := n0_
 have HO451 := n1_
 have HO456 := n2_
 have HO459 := n3_
 have HO462 := n4_
 have HO465 := n5_
 have HO472 := n6_
 have HO475 := n7_
 have HO480 := n8_
 have HO483 := n9_
 have HO486 := n10_
 have HO489 := n11_
 have BK443 := n12_
 have BK492 := n13_
 have HB := n14_
 clear n0_ n1_ n2_ n3_ n4_ n5_ n6_ n7_ n8_ n9_ n10_ n11_ n12_ n13_ n14_
 refine start_ (n := 5) (S := fun w' => w'.cell? ⟨gb492, 0, none⟩ = some (.int .i64 t469) ∧ w'.cell? ⟨gb492, 1, none⟩ = some (.slice Ao33 t470.length co33) ∧ w'.cell? ⟨gb492, 2, none⟩ = some (.slice Ao34 t473.length co34) ∧ w'.cell? ⟨gb492, 3, none⟩ = some (.int .i64 t476) ∧ w'.cell? ⟨gb492, 4, none⟩ = some (.bool t477) ∧ w'.cell? ⟨gb492, 5, none⟩ = some (.slice Ao35 t478.length co35) ∧ w'.cell? ⟨gb492, 6, none⟩ = some (.slice Ao36 t481.length co36) ∧ w'.cell? ⟨gb492, 7, none⟩ = some (.slice Ao37 t484.length co37) ∧ w'.cell? ⟨gb492, 8, none⟩ = some (.slice Ao38 t487.length co38) ∧ w'.cell? ⟨gb492, 9, none⟩ = some (.int .i64 t490) ∧ w'.cell? ⟨gb492, 10, none⟩ = some (.int .i64 t491) ∧ w'.cell? ⟨gb443, 0, none⟩ = some (.int .i64 a0_0) ∧ w'.cell? ⟨gb443, 1, none⟩ = some (.slice A0_1 l0_1.length c0_1) ∧ w'.cell? ⟨gb443, 2, none⟩ = some (.slice A0_2 l0_2.length c0_2) ∧ w'.cell? ⟨gb443, 3, none⟩ = some (.int .i64 a0_3) ∧ w'.cell? ⟨gb443, 4, none⟩ = some (.bool a0_4) ∧ w'.cell? ⟨gb443, 5, none⟩ = some (.slice A0_5 l0_5.length c0_5) ∧ w'.cell? ⟨gb443, 6, none⟩ = some (.slice A0_6 l0_6.length c0_6) ∧ w'.cell? ⟨gb443, 7, none⟩ = some (.slice A0_7 l0_7.length c0_7) ∧ w'.cell? ⟨gb443, 8, none⟩ = some (.slice A0_8 l0_8.length c0_8) ∧ w'.cell? ⟨gb443, 9, none⟩ = some (.int .i64 a0_9) ∧ w'.cell? ⟨gb443, 10, none⟩ = some (.int .i64 a0_10)) (ds := []) #[false, false, false, false, false] (by kernel_rfl) rfl rfl ⟨(blk_cell BK492.out 0).trans rfl, (blk_cell BK492.out 1).trans rfl, (blk_cell BK492.out 2).trans rfl, (blk_cell BK492.out 3).trans rfl, (blk_cell BK492.out 4).trans rfl, (blk_cell BK492.out 5).trans rfl, (blk_cell BK492.out 6).trans rfl, (blk_cell BK492.out 7).trans rfl, (blk_cell BK492.out 8).trans rfl, (blk_cell BK492.out 9).trans rfl, (blk_cell BK492.out 10).trans rfl, (blk_cell BK443.out 0).trans rfl, (blk_cell BK443.out 1).trans rfl, (blk_cell BK443.out 2).trans rfl, (blk_cell BK443.out 3).trans rfl, (blk_cell BK443.out 4).trans rfl, (blk_cell BK443.out 5).trans rfl, (blk_cell BK443.out 6).trans rfl, (blk_cell BK443.out 7).trans rfl, (blk_cell BK443.out 8).trans rfl, (blk_cell BK443.out 9).trans rfl, (blk_cell BK443.out 10).trans rfl⟩ (fun hHeld => ?_)
 generalize w39.drew = w40 at HO448 HO451 HO456 HO459 HO462 HO465 HO472 HO475 HO480 HO483 HO486 HO489 BK443 BK492 HB hHeld ⊢
 refine take_ (i := 0) (N := some 26) (v := ?_) (a' := ?_) #[true, false, false, false, false] rfl rfl (by kernel_rfl) (fun _ _ _ h => h) (Or.inl ⟨by rfl, ?_⟩) hHeld ?_ ?_
 rotate_left
 ·
  rintro w' ⟨s0, s1, s2, s3, s4, s5, s6, s7, s8, s9, s10, s11, s12, s13, s14, s15, s16, s17, s18, s19, s20, s21⟩
  go_simp
  with_reducible rfl
 rotate_left
 ·
  simp only [Act.put, List.setIfInBounds_toArray, List.set_cons_zero, List.set_cons_succ, i64_w, i32_w]
  rfl
 refine take_ (i := 1) (N := some 27) (v := ?_) (a' := ?_) #[true, true, false, false, false] rfl rfl (by kernel_rfl) (fun _ _ _ h => h) (Or.inl ⟨by rfl, ?_⟩) hHeld ?_ ?_
 rotate_left
 ·
  rintro w' ⟨s0, s1, s2, s3, s4, s5, s6, s7, s8, s9, s10, s11, s12, s13, s14, s15, s16, s17, s18, s19, s20, s21⟩
  go_simp
  with_reducible rfl
 rotate_left
 ·
  simp only [Act.put, List.setIfInBounds_toArray, List.set_cons_zero, List.set_cons_succ, i64_w, i32_w]
  rfl
 refine one_ (i := 2) (N := some 28) #[true, true, true, false, false] rfl rfl (by kernel_rfl) (by decide) (fun K hK => ?_)
 refine goes_ Try.func15 (by kernel_rfl) rfl #[.agg #[.int .i64 a0_0, .slice A0_1 l0_1.length c0_1, .slice A0_2 l0_2.length c0_2, .int .i64 a0_3, .bool a0_4, .slice A0_5 l0_5.length c0_5, .slice A0_6 l0_6.length c0_6, .slice A0_7 l0_7.length c0_7, .slice A0_8 l0_8.length c0_8, .int .i64 a0_9, .int .i64 a0_10]] (by rfl) rfl rfl (by (try simp only [List.map_toArray, List.map_cons, List.map_nil]); first | done | rfl | (simp only [List.length_drop, List.length_take]; rfl)) ?_
 with_reducible refine (laws_toWorld.calls k a0_0 _ _ l0_1 _ _ l0_2 a0_3 a0_4 _ _ l0_5 _ _ l0_6 _ _ l0_7 _ _ l0_8 a0_9 a0_10 t494 t495 t498 t501 t502 t503 t506 t509 t512 t515 t516 _ ?side1 ?side2 ?side3 ?side4 ?side5 ?side6 ?side7 ?side8 ?side9 ?side10 ?side11 ?side12 A13.out).mono ?_
 (case side1 => exact Kd.C_below HR0_1.out (xb HB.out))
 (case side2 => exact HC0_1.out)
 (case side3 => exact Kd.C_below HR0_2.out (xb HB.out))
 (case side4 => exact HC0_2.out)
 (case side5 => exact Kd.C_below HR0_5.out (xb HB.out))
 (case side6 => exact HC0_5.out)
 (case side7 => exact Kd.C_below HR0_6.out (xb HB.out))
 (case side8 => exact HC0_6.out)
 (case side9 => exact Kd.C_below HR0_7.out (xb HB.out))
 (case side10 => exact HC0_7.out)
 (case side11 => exact Kd.C_below HR0_8.out (xb HB.out))
 (case side12 => exact HC0_8.out)
 rintro e w41 ⟨v496, v499, v504, v507, v510, v513, rfl, ho0, ho1, ho2, ho3, ho4, ho5, hb⟩
 refine ⟨_, rfl, ?_⟩
 have n0_ := Aside0.mk (Kd.S_elder' (by (with_reducible repeat (first | apply Kd.S_alloc | apply Kd.S_drewN | apply Kd.S_drew)); exact HO448.out) (Kd.S_base ho0) hb)
 have n1_ := Aside0.mk (Kd.S_elder' (by (with_reducible repeat (first | apply Kd.S_alloc | apply Kd.S_drewN | apply Kd.S_drew)); exact HO451.out) (Kd.S_base ho1) hb)
 have n2_ := Aside0.mk (Kd.S_elder' (by (with_reducible repeat (first | apply Kd.S_alloc | apply Kd.S_drewN | apply Kd.S_drew)); exact HO456.out) (Kd.S_base ho2) hb)
 have n3_ := Aside0.mk (Kd.S_elder' (by (with_reducible repeat (first | apply Kd.S_alloc | apply Kd.S_drewN | apply Kd.S_drew)); exact HO459.out) (Kd.S_base ho3) hb)
 have n4_ := Aside0.mk (Kd.S_elder' (by (with_reducible repeat (first | apply Kd.S_alloc | apply Kd.S_drewN | apply Kd.S_drew)); exact HO462.out) (Kd.S_base ho4) hb)
 have n5_ := Aside0.mk (Kd.R_elder' (by (with_reducible repeat (first | apply Kd.R_alloc | apply Kd.R_drewN | apply Kd.R_drew)); exact HO465.out) (Kd.R_base ho5) hb)
 have n6_ := Aside0.mk (Kd.S_elder' (by (with_reducible repeat (first | apply Kd.S_alloc | apply Kd.S_drewN | apply Kd.S_drew)); exact HO472.out) (Kd.S_base ho0) hb)
 have n7_ := Aside0.mk (Kd.S_elder' (by (with_reducible repeat (first | apply Kd.S_alloc | apply Kd.S_drewN | apply Kd.S_drew)); exact HO475.out) (Kd.S_base ho1) hb)
 have n8_ := Aside0.mk (Kd.S_elder' (by (with_reducible repeat (first | apply Kd.S_alloc | apply Kd.S_drewN | apply Kd.S_drew)); exact HO480.out) (Kd.S_base ho2) hb)
 have n9_ := Aside0.mk (Kd.S_elder' (by (with_reducible repeat (first | apply Kd.S_alloc | apply Kd.S_drewN | apply Kd.S_drew)); exact HO483.out) (Kd.S_base ho3) hb)
 have n10_ := Aside0.mk (Kd.S_elder' (by (with_reducible repeat (first | apply Kd.S_alloc | apply Kd.S_drewN | apply Kd.S_drew)); exact HO486.out) (Kd.S_base ho4) hb)
 have n11_ := Aside0.mk (Kd.R_elder' (by (with_reducible repeat (first | apply Kd.R_alloc | apply Kd.R_drewN | apply Kd.R_drew)); exact HO489.out) (Kd.R_base ho5) hb)
 have n12_ := Aside0.mk (Kd.S_lower (Kd.S_new' (Kd.S_new' ho0 (Kd.S_lt (by (with_reducible repeat (first | apply Kd.S_alloc | apply Kd.S_drewN | apply Kd.S_drew)); exact HO448.out))) (Kd.S_lt (by (with_reducible repeat (first | apply Kd.S_alloc | apply Kd.S_drewN | apply Kd.S_drew)); exact HO472.out))) (below_size (by repeat (first | (with_reducible first | exact HB.out | apply below_alloc | apply pw_below_drewN | apply below_drew1 | refine below_set ?_ GE443.out | refine below_set ?_ GE492.out) | exact HB.out))))
 have n13_ := Aside0.mk (Kd.S_lower (Kd.S_new' (Kd.S_new' ho1 (Kd.S_lt (by (with_reducible repeat (first | apply Kd.S_alloc | apply Kd.S_drewN | apply Kd.S_drew)); exact HO451.out))) (Kd.S_lt (by (with_reducible repeat (first | apply Kd.S_alloc | apply Kd.S_drewN | apply Kd.S_drew)); exact HO475.out))) (below_size (by repeat (first | (with_reducible first | exact HB.out | apply below_alloc | apply pw_below_drewN | apply below_drew1 | refine below_set ?_ GE443.out | refine below_set ?_ GE492.out) | exact HB.out))))
 have n14_ := Aside0.mk (Kd.S_lower (Kd.S_new' (Kd.S_new' ho2 (Kd.S_lt (by (with_reducible repeat (first | apply Kd.S_alloc | apply Kd.S_drewN | apply Kd.S_drew)); exact HO456.out))) (Kd.S_lt (by (with_reducible repeat (first | apply Kd.S_alloc | apply Kd.S_drewN | apply Kd.S_drew)); exact HO480.out))) (below_size (by repeat (first | (with_reducible first | exact HB.out | apply below_alloc | apply pw_below_drewN | apply below_drew1 | refine below_set ?_ GE443.out | refine below_set ?_ GE492.out) | exact HB.out))))
 have n15_ := Aside0.mk (Kd.S_lower (Kd.S_new' (Kd.S_new' ho3 (Kd.S_lt (by (with_reducible repeat (first | apply Kd.S_alloc | apply Kd.S_drewN | apply Kd.S_drew)); exact HO459.out))) (Kd.S_lt (by (with_reducible repeat (first | apply Kd.S_alloc | apply Kd.S_drewN | apply Kd.S_drew)); exact HO483.out))) (below_size (by repeat (first | (with_reducible first | exact HB.out | apply below_alloc | apply pw_below_drewN | apply below_drew1 | refine below_set ?_ GE443.out | refine below_set ?_ GE492.out) | exact HB.out))))
 have n16_ := Aside0.mk (Kd.S_lower (Kd.S_new' (Kd.S_new' ho4 (Kd.S_lt (by (with_reducible repeat (first | apply Kd.S_alloc | apply Kd.S_drewN | apply Kd.S_drew)); exact HO462.out))) (Kd.S_lt (by (with_reducible repeat (first | apply Kd.S_alloc | apply Kd.S_drewN | apply Kd.S_drew)); exact HO486.out))) (below_size (by repeat (first | (with_reducible first | exact HB.out | apply below_alloc | apply pw_below_drewN | apply below_drew1 | refine below_set ?_ GE443.out | refine below_set ?_ GE492.out) | exact HB.out))))
 have n17_ := Aside0.mk (Kd.R_lower (Kd.R_new' (Kd.R_new' ho5 (Kd.R_lt (by (with_reducible repeat (first | apply Kd.R_alloc | apply Kd.R_drewN | apply Kd.R_drew)); exact HO465.out))) (Kd.R_lt (by (with_reducible repeat (first | apply Kd.R_alloc | apply Kd.R_drewN | apply Kd.R_drew)); exact HO489.out))) (below_size (by repeat (first | (with_reducible first | exact HB.out | apply below_alloc | apply pw_below_drewN | apply below_drew1 | refine below_set ?_ GE443.out | refine below_set ?_ GE492.out) | exact HB.out))))
 have n18_ := Aside0.mk (blk_below (g := gb443) (xg BK443.out) hb)
 have n19_ := Aside0.mk (blk_below (g := gb492) (xg BK492.out) hb)
 have n20_ := Aside0.mk (below_step (by repeat (first | (with_reducible first | exact HB.out | apply below_alloc | apply pw_below_drewN | apply below_drew1 | refine below_set ?_ GE443.out | refine below_set ?_ GE492.out) | exact HB.out)) hb)
 clear HO448
 clear HO451
 clear HO456
 clear HO459
 clear HO462
 clear HO465
 clear HO472
 clear HO475
 clear HO480
 clear HO483
 clear HO486
 clear HO489
 clear BK443
 clear BK492
 clear HB
 have HO448 := n0_
 have HO451 := n1_
 have HO456 := n2_
 have HO459 := n3_
 have HO462 := n4_
 have HO465 := n5_
 have HO472 := n6_
 have HO475 := n7_
 have HO480 := n8_
 have HO483 := n9_
 have HO486 := n10_
 have HO489 := n11_
 have HO497 := n12_
 have HO500 := n13_
 have HO505 := n14_
 have HO508 := n15_
 have HO511 := n16_
 have HO514 := n17_
 have BK443 := n18_
 have BK492 := n19_
 have HB := n20_
 clear n0_ n1_ n2_ n3_ n4_ n5_ n6_ n7_ n8_ n9_ n10_ n11_ n12_ n13_ n14_ n15_ n16_ n17_ n18_ n19_ n20_
 (try clear hb)
 (try clear hb2)
 (try clear hk)
 (try clear hi)
 (try clear ho0)
 (try clear ho1)
 (try clear ho2)
 (try clear ho3)
 (try clear ho4)
 (try clear ho5)
 obtain ⟨Ao42, co42, eo42⟩ := Kd.S_slice HO497.out
 (first | subst eo42 | (injection eo42 with f1_ f2_ f3_; have f4_ := f1_.symm; have f5_ := f3_.symm; clear f1_ f2_ f3_; subst f4_; subst f5_))
 obtain ⟨Ao43, co43, eo43⟩ := Kd.S_slice HO500.out
 (first | subst eo43 | (injection eo43 with f1_ f2_ f3_; have f4_ := f1_.symm; have f5_ := f3_.symm; clear f1_ f2_ f3_; subst f4_; subst f5_))
 obtain ⟨Ao44, co44, eo44⟩ := Kd.S_slice HO505.out
 (first | subst eo44 | (injection eo44 with f1_ f2_ f3_; have f4_ := f1_.symm; have f5_ := f3_.symm; clear f1_ f2_ f3_; subst f4_; subst f5_))
 obtain ⟨Ao45, co45, eo45⟩ := Kd.S_slice HO508.out
 (first | subst eo45 | (injection eo45 with f1_ f2_ f3_; have f4_ := f1_.symm; have f5_ := f3_.symm; clear f1_ f2_ f3_; subst f4_; subst f5_))
 obtain ⟨Ao46, co46, eo46⟩ := Kd.S_slice HO511.out
 (first | subst eo46 | (injection eo46 with f1_ f2_ f3_; have f4_ := f1_.symm; have f5_ := f3_.symm; clear f1_ f2_ f3_; subst f4_; subst f5_))
 obtain ⟨Ao47, co47, eo47⟩ := Kd.R_slice HO514.out
 (first | subst eo47 | (injection eo47 with f1_ f2_ f3_; have f4_ := f1_.symm; have f5_ := f3_.symm; clear f1_ f2_ f3_; subst f4_; subst f5_))
 refine hK.out _ _ ⟨(blk_cell BK492.out 0).trans rfl, (blk_cell BK492.out 1).trans rfl, (blk_cell BK492.out 2).trans rfl, (blk_cell BK492.out 3).trans rfl, (blk_cell BK492.out 4).trans rfl, (blk_cell BK492.out 5).trans rfl, (blk_cell BK492.out 6).trans rfl, (blk_cell BK492.out 7).trans rfl, (blk_cell BK492.out 8).trans rfl, (blk_cell BK492.out 9).trans rfl, (blk_cell BK492.out 10).trans rfl, (blk_cell BK443.out 0).trans rfl, (blk_cell BK443.out 1).trans rfl, (blk_cell BK443.out 2).trans rfl, (blk_cell BK443.out 3).trans rfl, (blk_cell BK443.out 4).trans rfl, (blk_cell BK443.out 5).trans rfl, (blk_cell BK443.out 6).trans rfl, (blk_cell BK443.out 7).trans rfl, (blk_cell BK443.out 8).trans rfl, (blk_cell BK443.out 9).trans rfl, (blk_cell BK443.out 10).trans rfl⟩ (fun hHeld => ?_)
 clear hK K
 refine norm_ (a' := ?_) ?_ ?_
 rotate_left
 ·
  show Act.put _ (some 28) _ = _
  simp only [Act.put, List.setIfInBounds_toArray, List.set_cons_zero, List.set_cons_succ, i64_w, i32_w]
  rfl
 refine one_ (i := 3) (N := some 29) #[true, true, true, true, false] rfl rfl (by kernel_rfl) (by decide) (fun K hK => ?_)
 refine goes_ Try.func17 (by kernel_rfl) rfl #[.agg #[.int .i64 t469, .slice Ao33 t470.length co33, .slice Ao34 t473.length co34, .int .i64 t476, .bool t477, .slice Ao35 t478.length co35, .slice Ao36 t481.length co36, .slice Ao37 t484.length co37, .slice Ao38 t487.length co38, .int .i64 t490, .int .i64 t491], .agg #[.int .i64 t494, .slice Ao42 t495.length co42, .slice Ao43 t498.length co43, .int .i64 t501, .bool t502, .slice Ao44 t503.length co44, .slice Ao45 t506.length co45, .slice Ao46 t509.length co46, .slice Ao47 t512.length co47, .int .i64 t515, .int .i64 t516]] (by rfl) rfl rfl (by (try simp only [List.map_toArray, List.map_cons, List.map_nil]); first | done | rfl | (simp only [List.length_drop, List.length_take]; rfl)) ?_
 with_reducible refine (laws_eqWorld.calls k t469 _ _ t470 _ _ t473 t476 t477 _ _ t478 _ _ t481 _ _ t484 _ _ t487 t490 t491 t494 _ _ t495 _ _ t498 t501 t502 _ _ t503 _ _ t506 _ _ t509 _ _ t512 t515 t516 true _ ?side1 ?side2 ?side3 ?side4 ?side5 ?side6 ?side7 ?side8 ?side9 ?side10 ?side11 ?side12 ?side13 ?side14 ?side15 ?side16 ?side17 ?side18 ?side19 ?side20 ?side21 ?side22 ?side23 ?side24 A14.out).mono ?_
 (case side1 => repeat (first | exact (Kd.S_reads' HO472.out).2.2 | (with_reducible refine Kd.C_alloc ?_ _) | (with_reducible refine Kd.C_drewN ?_ _) | (with_reducible refine Kd.C_drew ?_)))
 (case side2 => exact (Kd.S_reads' HO472.out).2.1)
 (case side3 => repeat (first | exact (Kd.S_reads' HO475.out).2.2 | (with_reducible refine Kd.C_alloc ?_ _) | (with_reducible refine Kd.C_drewN ?_ _) | (with_reducible refine Kd.C_drew ?_)))
 (case side4 => exact (Kd.S_reads' HO475.out).2.1)
 (case side5 => repeat (first | exact (Kd.S_reads' HO480.out).2.2 | (with_reducible refine Kd.C_alloc ?_ _) | (with_reducible refine Kd.C_drewN ?_ _) | (with_reducible refine Kd.C_drew ?_)))
 (case side6 => exact (Kd.S_reads' HO480.out).2.1)
 (case side7 => repeat (first | exact (Kd.S_reads' HO483.out).2.2 | (with_reducible refine Kd.C_alloc ?_ _) | (with_reducible refine Kd.C_drewN ?_ _) | (with_reducible refine Kd.C_drew ?_)))
 (case side8 => exact (Kd.S_reads' HO483.out).2.1)
 (case side9 => repeat (first | exact (Kd.S_reads' HO486.out).2.2 | (with_reducible refine Kd.C_alloc ?_ _) | (with_reducible refine Kd.C_drewN ?_ _) | (with_reducible refine Kd.C_drew ?_)))
 (case side10 => exact (Kd.S_reads' HO486.out).2.1)
 (case side11 => repeat (first | exact (Kd.R_reads' HO489.out).2.2 | (with_reducible refine Kd.C_alloc ?_ _) | (with_reducible refine Kd.C_drewN ?_ _) | (with_reducible refine Kd.C_drew ?_)))
 (case side12 => exact (Kd.R_reads' HO489.out).2.1)
 (case side13 => repeat (first | exact (Kd.S_reads' HO497.out).2.2 | (with_reducible refine Kd.C_alloc ?_ _) | (with_reducible refine Kd.C_drewN ?_ _) | (with_reducible refine Kd.C_drew ?_)))
 (case side14 => exact (Kd.S_reads' HO497.out).2.1)
 (case side15 => repeat (first | exact (Kd.S_reads' HO500.out).2.2 | (with_reducible refine Kd.C_alloc ?_ _) | (with_reducible refine Kd.C_drewN ?_ _) | (with_reducible refine Kd.C_drew ?_)))
 (case side16 => exact (Kd.S_reads' HO500.out).2.1)
 (case side17 => repeat (first | exact (Kd.S_reads' HO505.out).2.2 | (with_reducible refine Kd.C_alloc ?_ _) | (with_reducible refine Kd.C_drewN ?_ _) | (with_reducible refine Kd.C_drew ?_)))
 (case side18 => exact (Kd.S_reads' HO505.out).2.1)
 (case side19 => repeat (first | exact (Kd.S_reads' HO508.out).2.2 | (with_reducible refine Kd.C_alloc ?_ _) | (with_reducible refine Kd.C_drewN ?_ _) | (with_reducible refine Kd.C_drew ?_)))
 (case side20 => exact (Kd.S_reads' HO508.out).2.1)
 (case side21 => repeat (first | exact (Kd.S_reads' HO511.out).2.2 | (with_reducible refine Kd.C_alloc ?_ _) | (with_reducible refine Kd.C_drewN ?_ _) | (with_reducible refine Kd.C_drew ?_)))
 (case side22 => exact (Kd.S_reads' HO511.out).2.1)
 (case side23 => repeat (first | exact (Kd.R_reads' HO514.out).2.2 | (with_reducible refine Kd.C_alloc ?_ _) | (with_reducible refine Kd.C_drewN ?_ _) | (with_reducible refine Kd.C_drew ?_)))
 (case side24 => exact (Kd.R_reads' HO514.out).2.1)
 rintro e w48 ⟨rfl, hb⟩
 refine ⟨_, rfl, ?_⟩
 have n0_ := Aside0.mk (Kd.S_below (by (with_reducible repeat (first | apply Kd.S_alloc | apply Kd.S_drewN | apply Kd.S_drew)); exact HO448.out) hb)
 have n1_ := Aside0.mk (Kd.S_below (by (with_reducible repeat (first | apply Kd.S_alloc | apply Kd.S_drewN | apply Kd.S_drew)); exact HO451.out) hb)
 have n2_ := Aside0.mk (Kd.S_below (by (with_reducible repeat (first | apply Kd.S_alloc | apply Kd.S_drewN | apply Kd.S_drew)); exact HO456.out) hb)
 have n3_ := Aside0.mk (Kd.S_below (by (with_reducible repeat (first | apply Kd.S_alloc | apply Kd.S_drewN | apply Kd.S_drew)); exact HO459.out) hb)
 have n4_ := Aside0.mk (Kd.S_below (by (with_reducible repeat (first | apply Kd.S_alloc | apply Kd.S_drewN | apply Kd.S_drew)); exact HO462.out) hb)
 have n5_ := Aside0.mk (Kd.R_below (by (with_reducible repeat (first | apply Kd.R_alloc | apply Kd.R_drewN | apply Kd.R_drew)); exact HO465.out) hb)
 have n6_ := Aside0.mk (Kd.S_below (by (with_reducible repeat (first | apply Kd.S_alloc | apply Kd.S_drewN | apply Kd.S_drew)); exact HO472.out) hb)
 have n7_ := Aside0.mk (Kd.S_below (by (with_reducible repeat (first | apply Kd.S_alloc | apply Kd.S_drewN | apply Kd.S_drew)); exact HO475.out) hb)
 have n8_ := Aside0.mk (Kd.S_below (by (with_reducible repeat (first | apply Kd.S_alloc | apply Kd.S_drewN | apply Kd.S_drew)); exact HO480.out) hb)
 have n9_ := Aside0.mk (Kd.S_below (by (with_reducible repeat (first | apply Kd.S_alloc | apply Kd.S_drewN | apply Kd.S_drew)); exact HO483.out) hb)
 have n10_ := Aside0.mk (Kd.S_below (by (with_reducible repeat (first | apply Kd.S_alloc | apply Kd.S_drewN | apply Kd.S_drew)); exact HO486.out) hb)
 have n11_ := Aside0.mk (Kd.R_below (by (with_reducible repeat (first | apply Kd.R_alloc | apply Kd.R_drewN | apply Kd.R_drew)); exact HO489.out) hb)
 have n12_ := Aside0.mk (Kd.S_below (by (with_reducible repeat (first | apply Kd.S_alloc | apply Kd.S_drewN | apply Kd.S_drew)); exact HO497.out) hb)
 have n13_ := Aside0.mk (Kd.S_below (by (with_reducible repeat (first | apply Kd.S_alloc | apply Kd.S_drewN | apply Kd.S_drew)); exact HO500.out) hb)
 have n14_ := Aside0.mk (Kd.S_below (by (with_reducible repeat (first | apply Kd.S_alloc | apply Kd.S_drewN | apply Kd.S_drew)); exact HO505.out) hb)
 have n15_ := Aside0.mk (Kd.S_below (by (with_reducible repeat (first | apply Kd.S_alloc | apply Kd.S_drewN | apply Kd.S_drew)); exact HO508.out) hb)
 have n16_ := Aside0.mk (Kd.S_below (by (with_reducible repeat (first | apply Kd.S_alloc | apply Kd.S_drewN | apply Kd.S_drew)); exact HO511.out) hb)
 have n17_ := Aside0.mk (Kd.R_below (by (with_reducible repeat (first | apply Kd.R_alloc | apply Kd.R_drewN | apply Kd.R_drew)); exact HO514.out) hb)
 have n18_ := Aside0.mk (blk_below (g := gb443) (xg BK443.out) hb)
 have n19_ := Aside0.mk (blk_below (g := gb492) (xg BK492.out) hb)
 have n20_ := Aside0.mk (below_step (by repeat (first | (with_reducible first | exact HB.out | apply below_alloc | apply pw_below_drewN | apply below_drew1 | refine below_set ?_ GE443.out | refine below_set ?_ GE492.out) | exact HB.out)) hb)
 clear HO448
 clear HO451
 clear HO456
 clear HO459
 clear HO462
 clear HO465
 clear HO472
 clear HO475
 clear HO480
 clear HO483
 clear HO486
 clear HO489
 clear HO497
 clear HO500
 clear HO505
 clear HO508
 clear HO511
 clear HO514
 clear BK443
 clear BK492
 clear HB
 have HO448 := n0_
 have HO451 := n1_
 have HO456 := n2_
 have HO459 := n3_
 have HO462 := n4_
 have HO465 := n5_
 have HO472 := n6_
 have HO475 := n7_
 have HO480 := n8_
 have HO483 := n9_
 have HO486 := n10_
 have HO489 := n11_
 have HO497 := n12_
 have HO500 := n13_
 have HO505 := n14_
 have HO508 := n15_
 have HO511 := n16_
 have HO514 := n17_
 have BK443 := n18_
 have BK492 := n19_
 have HB := n20_
 clear n0_ n1_ n2_ n3_ n4_ n5_ n6_ n7_ n8_ n9_ n10_ n11_ n12_ n13_ n14_ n15_ n16_ n17_ n18_ n19_ n20_
 (try clear hb)
 (try clear hb2)
 (try clear hk)
 (try clear hi)
 refine hK.out _ _ ⟨(blk_cell BK492.out 0).trans rfl, (blk_cell BK492.out 1).trans rfl, (blk_cell BK492.out 2).trans rfl, (blk_cell BK492.out 3).trans rfl, (blk_cell BK492.out 4).trans rfl, (blk_cell BK492.out 5).trans rfl, (blk_cell BK492.out 6).trans rfl, (blk_cell BK492.out 7).trans rfl, (blk_cell BK492.out 8).trans rfl, (blk_cell BK492.out 9).trans rfl, (blk_cell BK492.out 10).trans rfl, (blk_cell BK443.out 0).trans rfl, (blk_cell BK443.out 1).trans rfl, (blk_cell BK443.out 2).trans rfl, (blk_cell BK443.out 3).trans rfl, (blk_cell BK443.out 4).trans rfl, (blk_cell BK443.out 5).trans rfl, (blk_cell BK443.out 6).trans rfl, (blk_cell BK443.out 7).trans rfl, (blk_cell BK443.out 8).trans rfl, (blk_cell BK443.out 9).trans rfl, (blk_cell BK443.out 10).trans rfl⟩ (fun hHeld => ?_)
 clear hK K
 refine norm_ (a' := ?_) ?_ ?_
 rotate_left
 ·
  show Act.put _ (some 29) _ = _
  simp only [Act.put, List.setIfInBounds_toArray, List.set_cons_zero, List.set_cons_succ, i64_w, i32_w]
  rfl
 refine pure_ (i := 4) (N := some 30) (v := ?_) (a' := ?_) #[true, true, true, true, true] rfl rfl (by kernel_rfl) (fun _ _ _ h => h) (Or.inl ⟨by rfl, ?_⟩) ?_ ?_
 rotate_left
 ·
  intro w'
  go_simp
  with_reducible rfl
 rotate_left
 ·
  simp only [Act.put, List.setIfInBounds_toArray, List.set_cons_zero, List.set_cons_succ, i64_w, i32_w]
  rfl
 refine done_ (by kernel_rfl) ?_
 try go_wp2
 go_ret
 exact ⟨by first | rfl | (simp [errW_none, errW_some] <;> rfl) | (simp [*, errW_none, errW_some] <;> rfl), by repeat (first | (with_reducible first | exact HB.out | apply below_alloc | apply pw_below_drewN | apply below_drew1 | refine below_set ?_ GE443.out | refine below_set ?_ GE492.out) | exact HB.out)⟩

end Go.Proofs.Ytgcelhejmpcchaa.PFnExactLateOf
