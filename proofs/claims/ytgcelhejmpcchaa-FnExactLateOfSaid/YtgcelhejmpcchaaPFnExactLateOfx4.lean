-- Written by wip/tools/xprint.py.
import Derived.Test.YtgcelhejmpcchaaPFnExactLateOfx0
import Derived.Test.YtgcelhejmpcchaaPFnExactLateOfx3
namespace Go.Proofs.Ytgcelhejmpcchaa.PFnExactLateOf
open Go.RowKit Go.Proofs.YtgcelhejmpcchaaW.PrintWords Go.Proofs.YtgcelhejmpcchaaW.PrintLast Go.Proofs.YtgcelhejmpcchaaW.PrintMore
attribute [local go_sem] max2_int min2_int max_two min_two max_three min_three max_four min_four   -- for this text's walks alone
set_option linter.unusedVariables false
set_option linter.unusedSimpArgs false

/-! ### spec_LateOf: function 14 -/
mutual
def spec_LateOf.j0 : Nat → Int → Int → Bool → Int → List (List Int) → List (S150) → Int → Bool → List (S101) → List (S79) → List (S126) → List (S63) → Int → Int → Option (Int)
 | 0, _, _, _, _, _, _, _, _, _, _, _, _, _, _ => none
 | k + 1, x1, x5, x19, x144000, x144001, x144002, x144003, x144004, x144005, x144006, x144007, x144008, x144009, x144010 => if x19 = true then (some 0) else (spec_LateOf.l0 k x1 x5 0 x144000 x144001 x144002 x144003 x144004 x144005 x144006 x144007 x144008 x144009 x144010)
def spec_LateOf.l0 : Nat → Int → Int → Int → Int → List (List Int) → List (S150) → Int → Bool → List (S101) → List (S79) → List (S126) → List (S63) → Int → Int → Option (Int)
 | 0, _, _, _, _, _, _, _, _, _, _, _, _, _, _ => none
 | k + 1, x1, x5, x6, x144000, x144001, x144002, x144003, x144004, x144005, x144006, x144007, x144008, x144009, x144010 => if 0 ≤ x1 then (if x1 < (x144006.length : Int) then (if x6 < (((rd_T79 x144006 x1).f5).length : Int) then (if 0 ≤ x6 then ((spec_DbAt.f k ((rd_T79 x144006 x1).f3) ((rd_T81 ((rd_T79 x144006 x1).f5) x6).f1)).bind fun bt150 => (if ((rd_T81 ((rd_T79 x144006 x1).f5) x6).f2) = 2 then (if (wrap64 (x144000 - ((rd_T81 ((rd_T79 x144006 x1).f5) x6).f4))) > bt150.2.2.2.1 then (spec_LateOf.l0 k x1 (wrap64 (x5 + 1)) (wrap64 (x6 + 1)) x144000 x144001 x144002 x144003 x144004 x144005 x144006 x144007 x144008 x144009 x144010) else (spec_LateOf.l0 k x1 x5 (wrap64 (x6 + 1)) x144000 x144001 x144002 x144003 x144004 x144005 x144006 x144007 x144008 x144009 x144010)) else (spec_LateOf.l0 k x1 x5 (wrap64 (x6 + 1)) x144000 x144001 x144002 x144003 x144004 x144005 x144006 x144007 x144008 x144009 x144010))) else (none)) else (some x5)) else (none)) else (none)
end
def spec_LateOf.f (k : Nat) (a0_0 : Int) (l0_1 : List (List Int)) (l0_2 : List (S150)) (a0_3 : Int) (a0_4 : Bool) (l0_5 : List (S101)) (l0_6 : List (S79)) (l0_7 : List (S126)) (l0_8 : List (S63)) (a0_9 : Int) (a0_10 : Int) (a1 : Int) : Option (Int) := (spec_l1In.f a1 0 1).bind fun t144 => (if t144 = true then (spec_LateOf.j0 k a1 0 (decide (a1 ≥ (l0_6.length : Int))) a0_0 l0_1 l0_2 a0_3 a0_4 l0_5 l0_6 l0_7 l0_8 a0_9 a0_10) else (spec_LateOf.j0 k a1 0 true a0_0 l0_1 l0_2 a0_3 a0_4 l0_5 l0_6 l0_7 l0_8 a0_9 a0_10))
theorem spec_LateOf.mono_l : ∀ k, (∀ y0 y1 y2 y3 y4 y5 y6 y7 y8 y9 y10 y11 y12 y13, LeO (spec_LateOf.j0 k y0 y1 y2 y3 y4 y5 y6 y7 y8 y9 y10 y11 y12 y13) (spec_LateOf.j0 (k + 1) y0 y1 y2 y3 y4 y5 y6 y7 y8 y9 y10 y11 y12 y13)) ∧ (∀ y0 y1 y2 y3 y4 y5 y6 y7 y8 y9 y10 y11 y12 y13, LeO (spec_LateOf.l0 k y0 y1 y2 y3 y4 y5 y6 y7 y8 y9 y10 y11 y12 y13) (spec_LateOf.l0 (k + 1) y0 y1 y2 y3 y4 y5 y6 y7 y8 y9 y10 y11 y12 y13))
 | 0 => ⟨fun _ _ _ _ _ _ _ _ _ _ _ _ _ _ r h => by simp [spec_LateOf.j0] at h, fun _ _ _ _ _ _ _ _ _ _ _ _ _ _ r h => by simp [spec_LateOf.l0] at h⟩
 | k + 1 => by
  obtain ⟨ih0, ih1⟩ := spec_LateOf.mono_l k
  refine ⟨?_, ?_⟩
  ·
   intro y0 y1 y2 y3 y4 y5 y6 y7 y8 y9 y10 y11 y12 y13
   unfold spec_LateOf.j0
   repeat' first
   | (with_reducible exact ih0 _ _ _ _ _ _ _ _ _ _ _ _ _ _)
   | (with_reducible exact ih1 _ _ _ _ _ _ _ _ _ _ _ _ _ _)
   | (with_reducible exact spec_DbAt.mono _ _ _)
   | (with_reducible exact LeO.refl _)
   | (with_reducible exact LeO.none _)
   | (with_reducible refine LeO.ite ?_ ?_)
   | (with_reducible refine LeO.bind ?_ (fun _ => ?_))
   | exact ih0 _ _ _ _ _ _ _ _ _ _ _ _ _ _
   | exact ih1 _ _ _ _ _ _ _ _ _ _ _ _ _ _
   | exact spec_DbAt.mono _ _ _
   | exact LeO.none _
   | refine LeO.ite ?_ ?_
   | refine LeO.bind ?_ (fun _ => ?_)
  intro y0 y1 y2 y3 y4 y5 y6 y7 y8 y9 y10 y11 y12 y13
  unfold spec_LateOf.l0
  repeat' first
  | (with_reducible exact ih0 _ _ _ _ _ _ _ _ _ _ _ _ _ _)
  | (with_reducible exact ih1 _ _ _ _ _ _ _ _ _ _ _ _ _ _)
  | (with_reducible exact spec_DbAt.mono _ _ _)
  | (with_reducible exact LeO.refl _)
  | (with_reducible exact LeO.none _)
  | (with_reducible refine LeO.ite ?_ ?_)
  | (with_reducible refine LeO.bind ?_ (fun _ => ?_))
  | exact ih0 _ _ _ _ _ _ _ _ _ _ _ _ _ _
  | exact ih1 _ _ _ _ _ _ _ _ _ _ _ _ _ _
  | exact spec_DbAt.mono _ _ _
  | exact LeO.none _
  | refine LeO.ite ?_ ?_
  | refine LeO.bind ?_ (fun _ => ?_)
theorem spec_LateOf.mono : ∀ a0 a1 a2 a3 a4 a5 a6 a7 a8 a9 a10 a11 k, LeO (spec_LateOf.f k a0 a1 a2 a3 a4 a5 a6 a7 a8 a9 a10 a11) (spec_LateOf.f (k + 1) a0 a1 a2 a3 a4 a5 a6 a7 a8 a9 a10 a11) := by
 intro a0 a1 a2 a3 a4 a5 a6 a7 a8 a9 a10 a11 k
 obtain ⟨ih0, ih1⟩ := spec_LateOf.mono_l k
 unfold spec_LateOf.f
 repeat' first
   | (with_reducible exact ih0 _ _ _ _ _ _ _ _ _ _ _ _ _ _)
   | (with_reducible exact ih1 _ _ _ _ _ _ _ _ _ _ _ _ _ _)
   | (with_reducible exact spec_DbAt.mono _ _ _)
   | (with_reducible exact LeO.refl _)
   | (with_reducible exact LeO.none _)
   | (with_reducible refine LeO.ite ?_ ?_)
   | (with_reducible refine LeO.bind ?_ (fun _ => ?_))
   | exact ih0 _ _ _ _ _ _ _ _ _ _ _ _ _ _
   | exact ih1 _ _ _ _ _ _ _ _ _ _ _ _ _ _
   | exact spec_DbAt.mono _ _ _
   | exact LeO.none _
   | refine LeO.ite ?_ ?_
   | refine LeO.bind ?_ (fun _ => ?_)
def spec_LateOf.T8 : Bool × List (List Nat × List Nat) := (true, [([], []), ([0], [0]), ([], []), ([1, 2], [1, 2]), ([3], [3]), ([4], [4]), ([], []), ([6], [6]), ([5, 7], [5, 7]), ([8], [8]), ([9], [9]), ([9], [9]), ([], []), ([12, 10, 8, 0, 1, 2, 3, 4, 5, 6, 7, 8, 9, 10, 12], [10, 12]), ([11, 13, 0, 1, 2, 3, 4, 5, 6, 7, 8, 9, 10, 11, 12, 13], [11])])
def spec_LateOf.B8 : List Nat := [0, 1, 0, 7, 15, 31, 0, 64, 255, 511, 1023, 1023, 0, 6143, 16383]
theorem spec_LateOf.tab8 : rtab .any (opsOf Try.f14 8) = spec_LateOf.T8 := by kernel_rfl
theorem spec_LateOf.bits8 : waitsOk spec_LateOf.T8.2 spec_LateOf.B8 = true := by kernel_rfl
set_option maxHeartbeats 8000000 in
set_option maxRecDepth 100000 in
theorem spec_LateOf.calls (k : Nat) (a0_0 : Int) (A0_1 : Option Addr) (c0_1 : Nat) (l0_1 : List (List Int)) (A0_2 : Option Addr) (c0_2 : Nat) (l0_2 : List (S150)) (a0_3 : Int) (a0_4 : Bool) (A0_5 : Option Addr) (c0_5 : Nat) (l0_5 : List (S101)) (A0_6 : Option Addr) (c0_6 : Nat) (l0_6 : List (S79)) (A0_7 : Option Addr) (c0_7 : Nat) (l0_7 : List (S126)) (A0_8 : Option Addr) (c0_8 : Nat) (l0_8 : List (S63)) (a0_9 : Int) (a0_10 : Int) (a1 : Int) (r : Int) (w : World) (hr0_1 : Kd.C (Kd.slice 5 (Kd.int .u8)) w A0_1 l0_1.length l0_1) (hc0_1 : l0_1.length ≤ c0_1) (hr0_2 : Kd.C k150 w A0_2 l0_2.length l0_2) (hc0_2 : l0_2.length ≤ c0_2) (hr0_5 : Kd.C k101 w A0_5 l0_5.length l0_5) (hc0_5 : l0_5.length ≤ c0_5) (hr0_6 : Kd.C k79 w A0_6 l0_6.length l0_6) (hc0_6 : l0_6.length ≤ c0_6) (hr0_7 : Kd.C k126 w A0_7 l0_7.length l0_7) (hc0_7 : l0_7.length ≤ c0_7) (hr0_8 : Kd.C k63 w A0_8 l0_8.length l0_8) (hc0_8 : l0_8.length ≤ c0_8) (h : spec_LateOf.f k a0_0 l0_1 l0_2 a0_3 a0_4 l0_5 l0_6 l0_7 l0_8 a0_9 a0_10 a1 = some r) :
  Calls Try.prog 14 #[.agg #[.int .i64 a0_0, .slice A0_1 l0_1.length c0_1, .slice A0_2 l0_2.length c0_2, .int .i64 a0_3, .bool a0_4, .slice A0_5 l0_5.length c0_5, .slice A0_6 l0_6.length c0_6, .slice A0_7 l0_7.length c0_7, .slice A0_8 l0_8.length c0_8, .int .i64 a0_9, .int .i64 a0_10], .int .i64 a1] w fun e w' => e = .returned (.int .i64 r) ∧ Below w.heap.size w w' := by
 have hu47 := Try.underlying47
 have hu81 := Try.underlying81
 have hu83 := Try.underlying83
 have HR0_1 := Aside0.mk hr0_1
 have HC0_1 := Aside0.mk hc0_1
 clear hr0_1 hc0_1
 have HR0_2 := Aside0.mk hr0_2
 have HC0_2 := Aside0.mk hc0_2
 clear hr0_2 hc0_2
 have HR0_5 := Aside0.mk hr0_5
 have HC0_5 := Aside0.mk hc0_5
 clear hr0_5 hc0_5
 have HR0_6 := Aside0.mk hr0_6
 have HC0_6 := Aside0.mk hc0_6
 clear hr0_6 hc0_6
 have HR0_7 := Aside0.mk hr0_7
 have HC0_7 := Aside0.mk hc0_7
 clear hr0_7 hc0_7
 have HR0_8 := Aside0.mk hr0_8
 have HC0_8 := Aside0.mk hc0_8
 clear hr0_8 hc0_8
 have HB := Aside0.mk (Below.refl w.heap.size w)
 have H : ((spec_l1In.f a1 0 1).bind fun t144 => (if t144 = true then (spec_LateOf.j0 k a1 0 (decide (a1 ≥ (l0_6.length : Int))) a0_0 l0_1 l0_2 a0_3 a0_4 l0_5 l0_6 l0_7 l0_8 a0_9 a0_10) else (spec_LateOf.j0 k a1 0 true a0_0 l0_1 l0_2 a0_3 a0_4 l0_5 l0_6 l0_7 l0_8 a0_9 a0_10))) = some r := h
 clear h
 have HC3 := Aside0.mk H
 clear H
 go_enter Try.func14, Try.ntmps14
 go_upto_region 2 with (first | ((with_reducible refine gate_dst (N := 2) rfl ?_); (try (refine gate_guard (by rfl) ?_; dsimp only)); refine box_event ?hg (N := 2) ?hd (cs := #[.int .i64 a0_0, .slice A0_1 l0_1.length c0_1, .slice A0_2 l0_2.length c0_2, .int .i64 a0_3, .bool a0_4, .slice A0_5 l0_5.length c0_5, .slice A0_6 l0_6.length c0_6, .slice A0_7 l0_7.length c0_7, .slice A0_8 l0_8.length c0_8, .int .i64 a0_9, .int .i64 a0_10]) (t := 47) ?hr ?_; (case hd => rfl); (case hg => rfl); (case hr => first | (go_simp; done) | (go_simp; rfl)); intro gb143 hg w4 hbox hb; have q_ := xq hb (xb HB.out); have n0_ := Aside0.mk (below_step q_ hb); have n1_ := Aside0.mk (hbox); have n2_ := Aside0.mk ((by rw [hg]; exact (below_size q_) : w.heap.size ≤ gb143)); have n3_ := Aside0.mk ((by rw [hg]; exact (below_size q_) : w.heap.size ≤ gb143)); clear HB; have HB := n0_; have BK143 := n1_; have GW143 := n2_; have GE143 := n3_; clear n0_ n1_ n2_ n3_; clear hb hbox hg))
 (try simp only [Act.put, List.setIfInBounds_toArray, List.set_cons_zero, List.set_cons_succ])
 go_cut [19] (fun v19 wc => ∃ (kq : Nat) (x19_2 : Bool), v19 = .bool x19_2 ∧ Aside0 (spec_LateOf.j0 kq a1 0 x19_2 a0_0 l0_1 l0_2 a0_3 a0_4 l0_5 l0_6 l0_7 l0_8 a0_9 a0_10 = some r) ∧ Aside0 (kq ≤ k) ∧ Aside0 (wc.heap[gb143]? = some (.cells #[.int .i64 a0_0, (.slice A0_1 l0_1.length c0_1), (.slice A0_2 l0_2.length c0_2), .int .i64 a0_3, .bool a0_4, (.slice A0_5 l0_5.length c0_5), (.slice A0_6 l0_6.length c0_6), (.slice A0_7 l0_7.length c0_7), (.slice A0_8 l0_8.length c0_8), .int .i64 a0_9, .int .i64 a0_10] 47 (0, 0))) ∧ Aside0 (Below w.heap.size w wc))
 case first =>
  have H := HC3.out
  clear HC3
  replace H := Option.bind_eq_some_iff.mp H
  obtain ⟨t144, A50, H⟩ := H
  (try dsimp only at H)
  have A5 := Aside0.mk A50
  clear A50
  by_cases c6 : t144 = true
  rotate_left
  ·
   replace c6 := Bool.eq_false_iff.mpr c6
   subst c6
   have H1 : (spec_LateOf.j0 k a1 0 true a0_0 l0_1 l0_2 a0_3 a0_4 l0_5 l0_6 l0_7 l0_8 a0_9 a0_10) = some r := by rw [if_neg (show ¬ (false = true) by decide)] at H; exact H
   clear H
   have H := H1
   clear H1
   have H' := Aside0.mk H
   clear H
   go_wp2_with (first | ((with_reducible refine gate_callee (f := 37) rfl ?_); refine goesL_ (some 11) rfl rfl Try.func37 (by kernel_rfl) rfl #[.int .i64 a1, .int .i64 0, .int .i64 1] rfl (by (try simp only [List.map_toArray, List.map_cons, List.map_nil]); first | done | rfl | (simp only [List.length_drop, List.length_take]; rfl)) ?_; (with_reducible refine (spec_l1In.calls a1 0 1 false _ A5.out).mono ?_); rintro e w' ⟨rfl, ⟨nd, rfl⟩⟩; refine ⟨_, rfl, ?_⟩))
   go_meet
   case rel => exact ⟨_, (true), (by first | rfl | (simp; done) | (simp [*]; done)), H', ⟨by first | omega | exact Nat.le_refl _⟩, ⟨xg BK143.out⟩, ⟨by repeat (first | (with_reducible first | exact HB.out | apply below_alloc | apply pw_below_drewN | apply below_drew1 | refine below_set ?_ GE143.out) | exact HB.out)⟩⟩
  subst c6
  have H1 : (spec_LateOf.j0 k a1 0 (decide (a1 ≥ (l0_6.length : Int))) a0_0 l0_1 l0_2 a0_3 a0_4 l0_5 l0_6 l0_7 l0_8 a0_9 a0_10) = some r := by rw [if_pos rfl] at H; exact H
  clear H
  have H := H1
  clear H1
  have H' := Aside0.mk H
  clear H
  go_wp2_with (first | ((with_reducible refine gate_callee (f := 37) rfl ?_); refine goesL_ (some 11) rfl rfl Try.func37 (by kernel_rfl) rfl #[.int .i64 a1, .int .i64 0, .int .i64 1] rfl (by (try simp only [List.map_toArray, List.map_cons, List.map_nil]); first | done | rfl | (simp only [List.length_drop, List.length_take]; rfl)) ?_; (with_reducible refine (spec_l1In.calls a1 0 1 true _ A5.out).mono ?_); rintro e w' ⟨rfl, ⟨nd, rfl⟩⟩; refine ⟨_, rfl, ?_⟩; obtain ⟨hcz7_0, hcz7_1, hcz7_2, hcz7_3, hcz7_4, hcz7_5, hcz7_6, hcz7_7, hcz7_8, hcz7_9, hcz7_10⟩ := xbk11 BK143.out; obtain ⟨hfz7_0, hfz7_1, hfz7_2, hfz7_3, hfz7_4, hfz7_5, hfz7_6, hfz7_7, hfz7_8, hfz7_9, hfz7_10⟩ := xbf11 BK143.out))
  go_meet
  case rel => exact ⟨_, (decide (a1 ≥ (l0_6.length : Int))), (by first | rfl | (simp; done) | (simp [*]; done)), H', ⟨by first | omega | exact Nat.le_refl _⟩, ⟨xg BK143.out⟩, ⟨by repeat (first | (with_reducible first | exact HB.out | apply below_alloc | apply pw_below_drewN | apply below_drew1 | refine below_set ?_ GE143.out) | exact HB.out)⟩⟩
 case rest =>
  clear HC3
  try clear c1
  try clear p2
  try clear c3
  try clear c6
  try clear hcz7_0
  try clear hcz7_1
  try clear hcz7_10
  try clear hcz7_2
  try clear hcz7_3
  try clear hcz7_4
  try clear hcz7_5
  try clear hcz7_6
  try clear hcz7_7
  try clear hcz7_8
  try clear hcz7_9
  try clear hfz7_0
  try clear hfz7_1
  try clear hfz7_10
  try clear hfz7_2
  try clear hfz7_3
  try clear hfz7_4
  try clear hfz7_5
  try clear hfz7_6
  try clear hfz7_7
  try clear hfz7_8
  try clear hfz7_9
  obtain ⟨kq, x19_2, rfl, HA, HJ2, BK143, HB⟩ := hcut
  cases kq with
  | zero => exact absurd HA.out (by simp [spec_LateOf.j0])
  | succ kj2 =>
   have H := HA.out
   clear HA
   simp only [spec_LateOf.j0] at H
   by_cases c8 : x19_2 = true
   ·
    subst c8
    have H1 : (some 0) = some r := by rw [if_pos rfl] at H; exact H
    clear H
    have H := H1
    clear H1
    obtain rfl := Option.some.inj H
    go_wp2
    go_ret
    exact ⟨by first | rfl | (simp [errW_none, errW_some] <;> rfl) | (simp [*, errW_none, errW_some] <;> rfl), by repeat (first | (with_reducible first | exact HB.out | apply below_alloc | apply pw_below_drewN | apply below_drew1 | refine below_set ?_ GE143.out) | exact HB.out)⟩
   replace c8 := Bool.eq_false_iff.mpr c8
   subst c8
   have H1 : (spec_LateOf.l0 kj2 a1 0 0 a0_0 l0_1 l0_2 a0_3 a0_4 l0_5 l0_6 l0_7 l0_8 a0_9 a0_10) = some r := by rw [if_neg (show ¬ (false = true) by decide)] at H; exact H
   clear H
   have H := H1
   clear H1
   have H' := Aside0.mk H
   clear H
   go_wp2
   go_loopg [5, 6] kj2 (fun kq v5 v6 w' => ∃ (x5_2 : Int) (x6_2 : Int), v5 = .int .i64 x5_2 ∧ v6 = .int .i64 x6_2 ∧ Aside0 (spec_LateOf.l0 kq a1 x5_2 x6_2 a0_0 l0_1 l0_2 a0_3 a0_4 l0_5 l0_6 l0_7 l0_8 a0_9 a0_10 = some r) ∧ Aside0 (kq ≤ kj2) ∧ Aside0 (w'.heap[gb143]? = some (.cells #[.int .i64 a0_0, (.slice A0_1 l0_1.length c0_1), (.slice A0_2 l0_2.length c0_2), .int .i64 a0_3, .bool a0_4, (.slice A0_5 l0_5.length c0_5), (.slice A0_6 l0_6.length c0_6), (.slice A0_7 l0_7.length c0_7), (.slice A0_8 l0_8.length c0_8), .int .i64 a0_9, .int .i64 a0_10] 47 (0, 0))) ∧ Aside0 (Below w.heap.size w w'))
   case atStart => exact ⟨(0), (0), (by first | rfl | (simp; done) | (simp [*]; done)), (by first | rfl | (simp; done) | (simp [*]; done)), H', ⟨Nat.le_refl _⟩, ⟨xg BK143.out⟩, ⟨by repeat (first | (with_reducible first | exact HB.out | apply below_alloc | apply pw_below_drewN | apply below_drew1 | refine below_set ?_ GE143.out) | exact HB.out)⟩⟩
   case round =>
    clear H'
    try clear c1
    try clear p2
    try clear c3
    try clear c6
    try clear c8
    try clear hcz7_0
    try clear hcz7_1
    try clear hcz7_10
    try clear hcz7_2
    try clear hcz7_3
    try clear hcz7_4
    try clear hcz7_5
    try clear hcz7_6
    try clear hcz7_7
    try clear hcz7_8
    try clear hcz7_9
    try clear hfz7_0
    try clear hfz7_1
    try clear hfz7_10
    try clear hfz7_2
    try clear hfz7_3
    try clear hfz7_4
    try clear hfz7_5
    try clear hfz7_6
    try clear hfz7_7
    try clear hfz7_8
    try clear hfz7_9
    try clear p2
    obtain ⟨x5_2, x6_2, rfl, rfl, HA, HK2, BK143, HB⟩ := hrel
    cases gk with
    | zero => exact absurd HA.out (by simp [spec_LateOf.l0])
    | succ k2 =>
     have H := HA.out
     clear HA
     simp only [spec_LateOf.l0] at H
     by_cases c9 : 0 ≤ a1
     rotate_left
     ·
      rw [if_neg c9] at H
      exact absurd H (by simp)
     rw [if_pos c9] at H
     have c9b0 : decide (0 ≤ a1) = true := decide_eq_true c9
     clear c9
     by_cases c10 : a1 < (l0_6.length : Int)
     rotate_left
     ·
      rw [if_neg c10] at H
      exact absurd H (by simp)
     rw [if_pos c10] at H
     have c10b0 : decide (a1 < (l0_6.length : Int)) = true := decide_eq_true c10
     clear c10
     by_cases c11 : x6_2 < (((rd_T79 l0_6 a1).f5).length : Int)
     rotate_left
     ·
      rw [if_neg c11] at H
      have c11b0 : decide (x6_2 < (((rd_T79 l0_6 a1).f5).length : Int)) = false := decide_eq_false c11
      clear c11
      obtain rfl := Option.some.inj H
      obtain ⟨hcz70_0, hcz70_1, hcz70_2, hcz70_3, hcz70_4, hcz70_5, hcz70_6, hcz70_7, hcz70_8, hcz70_9, hcz70_10⟩ := xbk11 BK143.out
      obtain ⟨hfz70_0, hfz70_1, hfz70_2, hfz70_3, hfz70_4, hfz70_5, hfz70_6, hfz70_7, hfz70_8, hfz70_9, hfz70_10⟩ := xbf11 BK143.out
      have p145 : 0 ≤ (a1 : Int) := of_decide_eq_true (by first | (with_reducible assumption) | assumption)
      have q145 : a1 < (l0_6.length : Int) := of_decide_eq_true (by first | (with_reducible assumption) | assumption)
      obtain ⟨ad145, A145_3, c145_3, A145_5, c145_5, A145_6, c145_6, e145, hx145_0, hx145_1, hx145_2, hx145_3, hx145_4, hx145_5, hx145_6, hx145_7, hx145_8, hx145_9, hx145_10, hx145_11, hl145_3, hi145_3, hl145_5, hi145_5, hl145_6, hi145_6⟩ := at_T79 HR0_6.out a1 p145 q145
      cases e145
      have q_ := xdn12 HB.out hx145_0 hx145_1 hx145_2 hx145_3 hx145_4 hx145_5 hx145_6 hx145_7 hx145_8 hx145_9 hx145_10 hx145_11
      clear hx145_0 hx145_1 hx145_2 hx145_3 hx145_4 hx145_5 hx145_6 hx145_7 hx145_8 hx145_9 hx145_10 hx145_11
      obtain ⟨hx145_0, hx145_1, hx145_2, hx145_3, hx145_4, hx145_5, hx145_6, hx145_7, hx145_8, hx145_9, hx145_10, hx145_11⟩ := q_
      have HR145_3 := Aside0.mk hi145_3
      have HC145_3 := Aside0.mk hl145_3
      clear hi145_3 hl145_3
      have HR145_5 := Aside0.mk hi145_5
      have HC145_5 := Aside0.mk hl145_5
      clear hi145_5 hl145_5
      have HR145_6 := Aside0.mk hi145_6
      have HC145_6 := Aside0.mk hl145_6
      clear hi145_6 hl145_6
      replace p145 := eq_true p145
      replace q145 := eq_true q145
      go_wp2
      go_ret
      exact ⟨by first | rfl | (simp [errW_none, errW_some] <;> rfl) | (simp [*, errW_none, errW_some] <;> rfl), by repeat (first | (with_reducible first | exact HB.out | apply below_alloc | apply pw_below_drewN | apply below_drew1 | refine below_set ?_ GE143.out) | exact HB.out)⟩
     rw [if_pos c11] at H
     have c11b0 : decide (x6_2 < (((rd_T79 l0_6 a1).f5).length : Int)) = true := decide_eq_true c11
     clear c11
     by_cases c12 : 0 ≤ x6_2
     rotate_left
     ·
      rw [if_neg c12] at H
      exact absurd H (by simp)
     rw [if_pos c12] at H
     have c12b0 : decide (0 ≤ x6_2) = true := decide_eq_true c12
     clear c12
     replace H := Option.bind_eq_some_iff.mp H
     obtain ⟨⟨t150, t151, t152, t153, t154, t155⟩, A130, H⟩ := H
     (try dsimp only at H)
     have A13 := Aside0.mk A130
     clear A130
     have HX_ := Aside0.mk H
     clear H
     obtain ⟨hcz16_0, hcz16_1, hcz16_2, hcz16_3, hcz16_4, hcz16_5, hcz16_6, hcz16_7, hcz16_8, hcz16_9, hcz16_10⟩ := xbk11 BK143.out
     obtain ⟨hfz16_0, hfz16_1, hfz16_2, hfz16_3, hfz16_4, hfz16_5, hfz16_6, hfz16_7, hfz16_8, hfz16_9, hfz16_10⟩ := xbf11 BK143.out
     have p145 : 0 ≤ (a1 : Int) := of_decide_eq_true (by first | (with_reducible assumption) | assumption)
     have q145 : a1 < (l0_6.length : Int) := of_decide_eq_true (by first | (with_reducible assumption) | assumption)
     obtain ⟨ad145, A145_3, c145_3, A145_5, c145_5, A145_6, c145_6, e145, hx145_0, hx145_1, hx145_2, hx145_3, hx145_4, hx145_5, hx145_6, hx145_7, hx145_8, hx145_9, hx145_10, hx145_11, hl145_3, hi145_3, hl145_5, hi145_5, hl145_6, hi145_6⟩ := at_T79 HR0_6.out a1 p145 q145
     cases e145
     have q_ := xdn12 HB.out hx145_0 hx145_1 hx145_2 hx145_3 hx145_4 hx145_5 hx145_6 hx145_7 hx145_8 hx145_9 hx145_10 hx145_11
     clear hx145_0 hx145_1 hx145_2 hx145_3 hx145_4 hx145_5 hx145_6 hx145_7 hx145_8 hx145_9 hx145_10 hx145_11
     obtain ⟨hx145_0, hx145_1, hx145_2, hx145_3, hx145_4, hx145_5, hx145_6, hx145_7, hx145_8, hx145_9, hx145_10, hx145_11⟩ := q_
     have HR145_3 := Aside0.mk hi145_3
     have HC145_3 := Aside0.mk hl145_3
     clear hi145_3 hl145_3
     have HR145_5 := Aside0.mk hi145_5
     have HC145_5 := Aside0.mk hl145_5
     clear hi145_5 hl145_5
     have HR145_6 := Aside0.mk hi145_6
     have HC145_6 := Aside0.mk hl145_6
     clear hi145_6 hl145_6
     replace p145 := eq_true p145
     replace q145 := eq_true q145
     have p146 : 0 ≤ (a1 : Int) := of_decide_eq_true (by first | (with_reducible assumption) | assumption)
     have q146 : a1 < (l0_6.length : Int) := of_decide_eq_true (by first | (with_reducible assumption) | assumption)
     obtain ⟨ad146, A146_3, c146_3, A146_5, c146_5, A146_6, c146_6, e146, hx146_0, hx146_1, hx146_2, hx146_3, hx146_4, hx146_5, hx146_6, hx146_7, hx146_8, hx146_9, hx146_10, hx146_11, hl146_3, hi146_3, hl146_5, hi146_5, hl146_6, hi146_6⟩ := at_T79 HR0_6.out a1 p146 q146
     obtain rfl : ad145 = ad146 := (by injection e146)
     have q_ := xdn12 HB.out hx146_0 hx146_1 hx146_2 hx146_3 hx146_4 hx146_5 hx146_6 hx146_7 hx146_8 hx146_9 hx146_10 hx146_11
     clear hx146_0 hx146_1 hx146_2 hx146_3 hx146_4 hx146_5 hx146_6 hx146_7 hx146_8 hx146_9 hx146_10 hx146_11
     obtain ⟨hx146_0, hx146_1, hx146_2, hx146_3, hx146_4, hx146_5, hx146_6, hx146_7, hx146_8, hx146_9, hx146_10, hx146_11⟩ := q_
     have HR146_3 := Aside0.mk hi146_3
     have HC146_3 := Aside0.mk hl146_3
     clear hi146_3 hl146_3
     have HR146_5 := Aside0.mk hi146_5
     have HC146_5 := Aside0.mk hl146_5
     clear hi146_5 hl146_5
     have HR146_6 := Aside0.mk hi146_6
     have HC146_6 := Aside0.mk hl146_6
     clear hi146_6 hl146_6
     replace p146 := eq_true p146
     replace q146 := eq_true q146
     have ea_ := Option.some.inj (hx145_3.symm.trans hx146_3)
     injection ea_ with ea_ en_ ec_
     subst ea_
     subst ec_
     clear en_
     have ea_ := Option.some.inj (hx145_5.symm.trans hx146_5)
     injection ea_ with ea_ en_ ec_
     subst ea_
     subst ec_
     clear en_
     have ea_ := Option.some.inj (hx145_6.symm.trans hx146_6)
     injection ea_ with ea_ en_ ec_
     subst ea_
     subst ec_
     clear en_
     have p147 : 0 ≤ (x6_2 : Int) := of_decide_eq_true (by first | (with_reducible assumption) | assumption)
     have q147 : x6_2 < (((rd_T79 l0_6 a1).f5).length : Int) := of_decide_eq_true (by first | (with_reducible assumption) | assumption)
     obtain ⟨ad147, e147, hx147_0, hx147_1, hx147_2, hx147_3, hx147_4, hx147_5, hx147_6, hx147_7⟩ := at_T81 HR146_5.out x6_2 p147 q147
     cases e147
     have q_ := xdn8 HB.out hx147_0 hx147_1 hx147_2 hx147_3 hx147_4 hx147_5 hx147_6 hx147_7
     clear hx147_0 hx147_1 hx147_2 hx147_3 hx147_4 hx147_5 hx147_6 hx147_7
     obtain ⟨hx147_0, hx147_1, hx147_2, hx147_3, hx147_4, hx147_5, hx147_6, hx147_7⟩ := q_
     replace p147 := eq_true p147
     replace q147 := eq_true q147
     try go_wp2_with (first | ((with_reducible refine gate_dst (N := 7) rfl ?_); (try (refine gate_guard (by rfl) ?_; dsimp only)); refine box_event ?hg (N := 7) ?hd (cs := #[.int .i64 0, .string (⟨#[]⟩ : ByteArray), .int .i64 0, .int .i64 0, .int .i64 0, .string (⟨#[]⟩ : ByteArray), .int .i64 0, .int .i64 0]) (t := 81) ?hr ?_; (case hd => rfl); (case hg => rfl); (case hr => first | (go_simp; done) | (go_simp; rfl)); intro gb148 hg w17 hbox hb; have q_ := xq hb (xb HB.out); have n0_ := Aside0.mk (blk_below (g := gb143) (xg BK143.out) hb); have n1_ := Aside0.mk (below_step q_ hb); have n2_ := Aside0.mk (hbox); have n3_ := Aside0.mk ((by rw [hg]; exact (below_size q_) : w.heap.size ≤ gb148)); have n4_ := Aside0.mk ((by rw [hg]; exact (below_size q_) : w.heap.size ≤ gb148)); have n5_ := Aside0.mk (xlt (g := gb143) hg (xg BK143.out)); have n6_ := Aside0.mk n5_.out.symm; clear BK143; clear HB; have BK143 := n0_; have HB := n1_; have BK148 := n2_; have GW148 := n3_; have GE148 := n4_; have NB143_148 := n5_; have NB148_143 := n6_; clear n0_ n1_ n2_ n3_ n4_ n5_ n6_; clear hb hbox hg; have hnb18 := NB148_143.out; have hnc18 := NB143_148.out; obtain ⟨hcz19_0, hcz19_1, hcz19_2, hcz19_3, hcz19_4, hcz19_5, hcz19_6, hcz19_7⟩ := xbk8 BK148.out; obtain ⟨hfz19_0, hfz19_1, hfz19_2, hfz19_3, hfz19_4, hfz19_5, hfz19_6, hfz19_7⟩ := xbf8 BK148.out))
     have n0_ : Aside0 (((((((((w17.setCell ⟨gb148, 0, none⟩ (.int .i64 ((rd_T81 ((rd_T79 l0_6 a1).f5) x6_2).f0))).setCell ⟨gb148, 1, none⟩ (.string ((rd_T81 ((rd_T79 l0_6 a1).f5) x6_2).f1))).setCell ⟨gb148, 2, none⟩ (.int .i64 ((rd_T81 ((rd_T79 l0_6 a1).f5) x6_2).f2))).setCell ⟨gb148, 3, none⟩ (.int .i64 ((rd_T81 ((rd_T79 l0_6 a1).f5) x6_2).f3))).setCell ⟨gb148, 4, none⟩ (.int .i64 ((rd_T81 ((rd_T79 l0_6 a1).f5) x6_2).f4))).setCell ⟨gb148, 5, none⟩ (.string ((rd_T81 ((rd_T79 l0_6 a1).f5) x6_2).f5))).setCell ⟨gb148, 6, none⟩ (.int .i64 ((rd_T81 ((rd_T79 l0_6 a1).f5) x6_2).f6))).setCell ⟨gb148, 7, none⟩ (.int .i64 ((rd_T81 ((rd_T79 l0_6 a1).f5) x6_2).f7))).heap[gb143]? = some (.cells #[.int .i64 a0_0, .slice A0_1 l0_1.length c0_1, .slice A0_2 l0_2.length c0_2, .int .i64 a0_3, .bool a0_4, .slice A0_5 l0_5.length c0_5, .slice (some ad145) l0_6.length c0_6, .slice A0_7 l0_7.length c0_7, .slice A0_8 l0_8.length c0_8, .int .i64 a0_9, .int .i64 a0_10] 47 (0, 0))) := ⟨by (with_reducible repeat (first | refine blk_far ?_ NB143_148.out _ | refine blk_drewN ?_ _ | refine blk_drew ?_ | refine blk_alloc ?_ _)); (with_reducible repeat (first | refine blk_drewN ?_ _ | refine blk_drew ?_ | refine blk_alloc ?_ _)); exact BK143.out⟩
     have n1_ : Aside0 (((((((((w17.setCell ⟨gb148, 0, none⟩ (.int .i64 ((rd_T81 ((rd_T79 l0_6 a1).f5) x6_2).f0))).setCell ⟨gb148, 1, none⟩ (.string ((rd_T81 ((rd_T79 l0_6 a1).f5) x6_2).f1))).setCell ⟨gb148, 2, none⟩ (.int .i64 ((rd_T81 ((rd_T79 l0_6 a1).f5) x6_2).f2))).setCell ⟨gb148, 3, none⟩ (.int .i64 ((rd_T81 ((rd_T79 l0_6 a1).f5) x6_2).f3))).setCell ⟨gb148, 4, none⟩ (.int .i64 ((rd_T81 ((rd_T79 l0_6 a1).f5) x6_2).f4))).setCell ⟨gb148, 5, none⟩ (.string ((rd_T81 ((rd_T79 l0_6 a1).f5) x6_2).f5))).setCell ⟨gb148, 6, none⟩ (.int .i64 ((rd_T81 ((rd_T79 l0_6 a1).f5) x6_2).f6))).setCell ⟨gb148, 7, none⟩ (.int .i64 ((rd_T81 ((rd_T79 l0_6 a1).f5) x6_2).f7))).heap[gb148]? = some (.cells #[.int .i64 ((rd_T81 ((rd_T79 l0_6 a1).f5) x6_2).f0), .string ((rd_T81 ((rd_T79 l0_6 a1).f5) x6_2).f1), .int .i64 ((rd_T81 ((rd_T79 l0_6 a1).f5) x6_2).f2), .int .i64 ((rd_T81 ((rd_T79 l0_6 a1).f5) x6_2).f3), .int .i64 ((rd_T81 ((rd_T79 l0_6 a1).f5) x6_2).f4), .string ((rd_T81 ((rd_T79 l0_6 a1).f5) x6_2).f5), .int .i64 ((rd_T81 ((rd_T79 l0_6 a1).f5) x6_2).f6), .int .i64 ((rd_T81 ((rd_T79 l0_6 a1).f5) x6_2).f7)] 81 (0, 0))) := ⟨by (refine xput8 (cs := ?cs1) ?h1 ?e1; (case h1 => ((with_reducible repeat (first | refine blk_drewN ?_ _ | refine blk_drew ?_ | refine blk_alloc ?_ _)); exact BK148.out)); simp only [List.setIfInBounds_toArray, List.set_cons_zero, List.set_cons_succ])⟩
     have n2_ : Aside0 (Below w.heap.size w ((((((((w17.setCell ⟨gb148, 0, none⟩ (.int .i64 ((rd_T81 ((rd_T79 l0_6 a1).f5) x6_2).f0))).setCell ⟨gb148, 1, none⟩ (.string ((rd_T81 ((rd_T79 l0_6 a1).f5) x6_2).f1))).setCell ⟨gb148, 2, none⟩ (.int .i64 ((rd_T81 ((rd_T79 l0_6 a1).f5) x6_2).f2))).setCell ⟨gb148, 3, none⟩ (.int .i64 ((rd_T81 ((rd_T79 l0_6 a1).f5) x6_2).f3))).setCell ⟨gb148, 4, none⟩ (.int .i64 ((rd_T81 ((rd_T79 l0_6 a1).f5) x6_2).f4))).setCell ⟨gb148, 5, none⟩ (.string ((rd_T81 ((rd_T79 l0_6 a1).f5) x6_2).f5))).setCell ⟨gb148, 6, none⟩ (.int .i64 ((rd_T81 ((rd_T79 l0_6 a1).f5) x6_2).f6))).setCell ⟨gb148, 7, none⟩ (.int .i64 ((rd_T81 ((rd_T79 l0_6 a1).f5) x6_2).f7)))) := ⟨by repeat (first | (with_reducible first | exact HB.out | apply below_alloc | apply pw_below_drewN | apply below_drew1 | refine below_set ?_ GE143.out | refine below_set ?_ GE148.out) | exact HB.out)⟩
     (try clear BK143)
     (try clear BK148)
     (try clear HB)
     generalize ((((((((w17.setCell ⟨gb148, 0, none⟩ (.int .i64 ((rd_T81 ((rd_T79 l0_6 a1).f5) x6_2).f0))).setCell ⟨gb148, 1, none⟩ (.string ((rd_T81 ((rd_T79 l0_6 a1).f5) x6_2).f1))).setCell ⟨gb148, 2, none⟩ (.int .i64 ((rd_T81 ((rd_T79 l0_6 a1).f5) x6_2).f2))).setCell ⟨gb148, 3, none⟩ (.int .i64 ((rd_T81 ((rd_T79 l0_6 a1).f5) x6_2).f3))).setCell ⟨gb148, 4, none⟩ (.int .i64 ((rd_T81 ((rd_T79 l0_6 a1).f5) x6_2).f4))).setCell ⟨gb148, 5, none⟩ (.string ((rd_T81 ((rd_T79 l0_6 a1).f5) x6_2).f5))).setCell ⟨gb148, 6, none⟩ (.int .i64 ((rd_T81 ((rd_T79 l0_6 a1).f5) x6_2).f6))).setCell ⟨gb148, 7, none⟩ (.int .i64 ((rd_T81 ((rd_T79 l0_6 a1).f5) x6_2).f7))) = w20 at n0_ n1_ n2_ ⊢
     have BK143 := n0_
     have BK148 := n1_
     have HB := n2_
     clear n0_ n1_ n2_
     have n0_ := Aside0.mk (blk_drew BK143.out)
     have n1_ := Aside0.mk (blk_drew BK148.out)
     have n2_ := Aside0.mk (below_drew1 HB.out)
     clear BK143
     clear BK148
     clear HB
     have BK143 := n0_
     have BK148 := n1_
     have HB := n2_
     clear n0_ n1_ n2_
     have p149 : 0 ≤ (a1 : Int) := of_decide_eq_true (by first | (with_reducible assumption) | assumption)
     have q149 : a1 < (l0_6.length : Int) := of_decide_eq_true (by first | (with_reducible assumption) | assumption)
     obtain ⟨ad149, A149_3, c149_3, A149_5, c149_5, A149_6, c149_6, e149, hx149_0, hx149_1, hx149_2, hx149_3, hx149_4, hx149_5, hx149_6, hx149_7, hx149_8, hx149_9, hx149_10, hx149_11, hl149_3, hi149_3, hl149_5, hi149_5, hl149_6, hi149_6⟩ := at_T79 HR0_6.out a1 p149 q149
     have hw149_11 := hx149_11
     have hw149_10 := hx149_10
     have hw149_9 := hx149_9
     have hw149_8 := hx149_8
     have hw149_7 := hx149_7
     have hw149_6 := hx149_6
     have hw149_5 := hx149_5
     have hw149_4 := hx149_4
     have hw149_3 := hx149_3
     have hw149_2 := hx149_2
     have hw149_1 := hx149_1
     have hw149_0 := hx149_0
     obtain rfl : ad145 = ad149 := (by injection e149)
     have q_ := xdn12 HB.out hx149_0 hx149_1 hx149_2 hx149_3 hx149_4 hx149_5 hx149_6 hx149_7 hx149_8 hx149_9 hx149_10 hx149_11
     clear hx149_0 hx149_1 hx149_2 hx149_3 hx149_4 hx149_5 hx149_6 hx149_7 hx149_8 hx149_9 hx149_10 hx149_11
     obtain ⟨hx149_0, hx149_1, hx149_2, hx149_3, hx149_4, hx149_5, hx149_6, hx149_7, hx149_8, hx149_9, hx149_10, hx149_11⟩ := q_
     have HR149_3 := Aside0.mk hi149_3
     have HC149_3 := Aside0.mk hl149_3
     clear hi149_3 hl149_3
     have HR149_5 := Aside0.mk hi149_5
     have HC149_5 := Aside0.mk hl149_5
     clear hi149_5 hl149_5
     have HR149_6 := Aside0.mk hi149_6
     have HC149_6 := Aside0.mk hl149_6
     clear hi149_6 hl149_6
     replace p149 := eq_true p149
     replace q149 := eq_true q149
     refine start_ (n := 15) (S := fun w' => w'.cell? ⟨gb143, 0, none⟩ = some (.int .i64 a0_0) ∧ w'.cell? ⟨gb143, 1, none⟩ = some (.slice A0_1 l0_1.length c0_1) ∧ w'.cell? ⟨gb143, 2, none⟩ = some (.slice A0_2 l0_2.length c0_2) ∧ w'.cell? ⟨gb143, 3, none⟩ = some (.int .i64 a0_3) ∧ w'.cell? ⟨gb143, 4, none⟩ = some (.bool a0_4) ∧ w'.cell? ⟨gb143, 5, none⟩ = some (.slice A0_5 l0_5.length c0_5) ∧ w'.cell? ⟨gb143, 6, none⟩ = some (.slice (some ad145) l0_6.length c0_6) ∧ w'.cell? ⟨gb143, 7, none⟩ = some (.slice A0_7 l0_7.length c0_7) ∧ w'.cell? ⟨gb143, 8, none⟩ = some (.slice A0_8 l0_8.length c0_8) ∧ w'.cell? ⟨gb143, 9, none⟩ = some (.int .i64 a0_9) ∧ w'.cell? ⟨gb143, 10, none⟩ = some (.int .i64 a0_10) ∧ w'.cell? ⟨gb148, 0, none⟩ = some (.int .i64 ((rd_T81 ((rd_T79 l0_6 a1).f5) x6_2).f0)) ∧ w'.cell? ⟨gb148, 1, none⟩ = some (.string ((rd_T81 ((rd_T79 l0_6 a1).f5) x6_2).f1)) ∧ w'.cell? ⟨gb148, 2, none⟩ = some (.int .i64 ((rd_T81 ((rd_T79 l0_6 a1).f5) x6_2).f2)) ∧ w'.cell? ⟨gb148, 3, none⟩ = some (.int .i64 ((rd_T81 ((rd_T79 l0_6 a1).f5) x6_2).f3)) ∧ w'.cell? ⟨gb148, 4, none⟩ = some (.int .i64 ((rd_T81 ((rd_T79 l0_6 a1).f5) x6_2).f4)) ∧ w'.cell? ⟨gb148, 5, none⟩ = some (.string ((rd_T81 ((rd_T79 l0_6 a1).f5) x6_2).f5)) ∧ w'.cell? ⟨gb148, 6, none⟩ = some (.int .i64 ((rd_T81 ((rd_T79 l0_6 a1).f5) x6_2).f6)) ∧ w'.cell? ⟨gb148, 7, none⟩ = some (.int .i64 ((rd_T81 ((rd_T79 l0_6 a1).f5) x6_2).f7)) ∧ w'.cell? (ad145.add ((a1).toNat * 12)) = some (.int .i64 ((rd_T79 l0_6 a1).f0)) ∧ w'.cell? ⟨(ad145.add ((a1).toNat * 12)).block, (ad145.add ((a1).toNat * 12)).off + 1, none⟩ = some (.int .i64 ((rd_T79 l0_6 a1).f1)) ∧ w'.cell? ⟨(ad145.add ((a1).toNat * 12)).block, (ad145.add ((a1).toNat * 12)).off + 2, none⟩ = some (.int .i64 ((rd_T79 l0_6 a1).f2)) ∧ w'.cell? ⟨(ad145.add ((a1).toNat * 12)).block, (ad145.add ((a1).toNat * 12)).off + 3, none⟩ = some (.slice A149_3 ((rd_T79 l0_6 a1).f3).length c149_3) ∧ w'.cell? ⟨(ad145.add ((a1).toNat * 12)).block, (ad145.add ((a1).toNat * 12)).off + 4, none⟩ = some (.bool ((rd_T79 l0_6 a1).f4)) ∧ w'.cell? ⟨(ad145.add ((a1).toNat * 12)).block, (ad145.add ((a1).toNat * 12)).off + 5, none⟩ = some (.slice A149_5 ((rd_T79 l0_6 a1).f5).length c149_5) ∧ w'.cell? ⟨(ad145.add ((a1).toNat * 12)).block, (ad145.add ((a1).toNat * 12)).off + 6, none⟩ = some (.slice A149_6 ((rd_T79 l0_6 a1).f6).length c149_6) ∧ w'.cell? ⟨(ad145.add ((a1).toNat * 12)).block, (ad145.add ((a1).toNat * 12)).off + 7, none⟩ = some (.int .i64 ((rd_T79 l0_6 a1).f7)) ∧ w'.cell? ⟨(ad145.add ((a1).toNat * 12)).block, (ad145.add ((a1).toNat * 12)).off + 8, none⟩ = some (.int .i64 ((rd_T79 l0_6 a1).f8.f0)) ∧ w'.cell? ⟨(ad145.add ((a1).toNat * 12)).block, (ad145.add ((a1).toNat * 12)).off + 9, none⟩ = some (.int .i64 ((rd_T79 l0_6 a1).f8.f1)) ∧ w'.cell? ⟨(ad145.add ((a1).toNat * 12)).block, (ad145.add ((a1).toNat * 12)).off + 10, none⟩ = some (.int .i64 ((rd_T79 l0_6 a1).f8.f2)) ∧ w'.cell? ⟨(ad145.add ((a1).toNat * 12)).block, (ad145.add ((a1).toNat * 12)).off + 11, none⟩ = some (.int .i64 ((rd_T79 l0_6 a1).f8.f3))) (ds := []) #[false, false, false, false, false, false, false, false, false, false, false, false, false, false, false] (by kernel_rfl) rfl rfl ⟨(blk_cell BK143.out 0).trans rfl, (blk_cell BK143.out 1).trans rfl, (blk_cell BK143.out 2).trans rfl, (blk_cell BK143.out 3).trans rfl, (blk_cell BK143.out 4).trans rfl, (blk_cell BK143.out 5).trans rfl, (blk_cell BK143.out 6).trans rfl, (blk_cell BK143.out 7).trans rfl, (blk_cell BK143.out 8).trans rfl, (blk_cell BK143.out 9).trans rfl, (blk_cell BK143.out 10).trans rfl, (blk_cell BK148.out 0).trans rfl, (blk_cell BK148.out 1).trans rfl, (blk_cell BK148.out 2).trans rfl, (blk_cell BK148.out 3).trans rfl, (blk_cell BK148.out 4).trans rfl, (blk_cell BK148.out 5).trans rfl, (blk_cell BK148.out 6).trans rfl, (blk_cell BK148.out 7).trans rfl, ((HB.out.cell (World.block_lt_of_cell? w _ hw149_0)).trans hw149_0), ((HB.out.cell (World.block_lt_of_cell? w _ hw149_1)).trans hw149_1), ((HB.out.cell (World.block_lt_of_cell? w _ hw149_2)).trans hw149_2), ((HB.out.cell (World.block_lt_of_cell? w _ hw149_3)).trans hw149_3), ((HB.out.cell (World.block_lt_of_cell? w _ hw149_4)).trans hw149_4), ((HB.out.cell (World.block_lt_of_cell? w _ hw149_5)).trans hw149_5), ((HB.out.cell (World.block_lt_of_cell? w _ hw149_6)).trans hw149_6), ((HB.out.cell (World.block_lt_of_cell? w _ hw149_7)).trans hw149_7), ((HB.out.cell (World.block_lt_of_cell? w _ hw149_8)).trans hw149_8), ((HB.out.cell (World.block_lt_of_cell? w _ hw149_9)).trans hw149_9), ((HB.out.cell (World.block_lt_of_cell? w _ hw149_10)).trans hw149_10), ((HB.out.cell (World.block_lt_of_cell? w _ hw149_11)).trans hw149_11)⟩ (fun hHeld => ?_); refine with_tabW spec_LateOf.tab8 spec_LateOf.bits8 (fun HT_ HW_ => ?_)
     generalize w20.drew = w21 at BK143 BK148 HB HR149_3 HR149_5 HR149_6 hx149_0 hx149_1 hx149_10 hx149_11 hx149_2 hx149_3 hx149_4 hx149_5 hx149_6 hx149_7 hx149_8 hx149_9 hHeld ⊢
     refine pure_ (i := 0) (N := some 41) (v := ?_) (a' := ?_) #[true, false, false, false, false, false, false, false, false, false, false, false, false, false, false] rfl rfl (any_of HT_.out (by kernel_rfl)) (fun _ _ _ h => h) (Or.inl ⟨by rfl, ?_⟩) ?_ ?_
     rotate_left
     ·
      intro w'
      go_simp
      with_reducible rfl
     rotate_left
     ·
      simp only [Act.put, List.setIfInBounds_toArray, List.set_cons_zero, List.set_cons_succ, i64_w, i32_w]
      rfl
     refine pure_ (i := 2) (N := some 43) (v := ?_) (a' := ?_) #[true, false, true, false, false, false, false, false, false, false, false, false, false, false, false] rfl rfl (any_of HT_.out (by kernel_rfl)) (fun _ _ _ h => h) (Or.inl ⟨by rfl, ?_⟩) ?_ ?_
     rotate_left
     ·
      intro w'
      go_simp
      with_reducible rfl
     rotate_left
     ·
      simp only [Act.put, List.setIfInBounds_toArray, List.set_cons_zero, List.set_cons_succ, i64_w, i32_w]
      rfl
     refine pure_ (i := 6) (N := some 47) (v := ?_) (a' := ?_) #[true, false, true, false, false, false, true, false, false, false, false, false, false, false, false] rfl rfl (any_of HT_.out (by kernel_rfl)) (fun _ _ _ h => h) (Or.inl ⟨by rfl, ?_⟩) ?_ ?_
     rotate_left
     ·
      intro w'
      go_simp
      with_reducible rfl
     rotate_left
     ·
      simp only [Act.put, List.setIfInBounds_toArray, List.set_cons_zero, List.set_cons_succ, i64_w, i32_w]
      rfl
     refine take_ (i := 1) (N := some 42) (v := ?_) (a' := ?_) #[true, true, true, false, false, false, true, false, false, false, false, false, false, false, false] rfl rfl (take_ofW HT_.out HW_.out (by kernel_rfl)) (fun _ _ _ h => h) (Or.inl ⟨by rfl, ?_⟩) hHeld ?_ ?_
     rotate_left
     ·
      rintro w' ⟨s0, s1, s2, s3, s4, s5, s6, s7, s8, s9, s10, s11, s12, s13, s14, s15, s16, s17, s18, s19, s20, s21, s22, s23, s24, s25, s26, s27, s28, s29, s30⟩
      go_simp
      with_reducible rfl
     rotate_left
     ·
      simp only [Act.put, List.setIfInBounds_toArray, List.set_cons_zero, List.set_cons_succ, i64_w, i32_w]
      rfl
     refine pure_ (i := 3) (N := some 44) (v := ?_) (a' := ?_) #[true, true, true, true, false, false, true, false, false, false, false, false, false, false, false] rfl rfl (any_of HT_.out (by kernel_rfl)) (fun _ _ _ h => h) (Or.inl ⟨by rfl, ?_⟩) ?_ ?_
     rotate_left
     ·
      intro w'
      go_simp
      with_reducible rfl
     rotate_left
     ·
      simp only [Act.put, List.setIfInBounds_toArray, List.set_cons_zero, List.set_cons_succ, i64_w, i32_w]
      rfl
     refine pure_ (i := 4) (N := some 45) (v := ?_) (a' := ?_) #[true, true, true, true, true, false, true, false, false, false, false, false, false, false, false] rfl rfl (any_of HT_.out (by kernel_rfl)) (fun _ _ _ h => h) (Or.inl ⟨by rfl, ?_⟩) ?_ ?_
     rotate_left
     ·
      intro w'
      go_simp
      with_reducible rfl
     rotate_left
     ·
      simp only [Act.put, List.setIfInBounds_toArray, List.set_cons_zero, List.set_cons_succ, i64_w, i32_w]
      rfl
     refine take_ (i := 5) (N := some 46) (v := ?_) (a' := ?_) #[true, true, true, true, true, true, true, false, false, false, false, false, false, false, false] rfl rfl (take_ofW HT_.out HW_.out (by kernel_rfl)) (fun _ _ _ h => h) (Or.inl ⟨by rfl, ?_⟩) hHeld ?_ ?_
     rotate_left
     ·
      rintro w' ⟨s0, s1, s2, s3, s4, s5, s6, s7, s8, s9, s10, s11, s12, s13, s14, s15, s16, s17, s18, s19, s20, s21, s22, s23, s24, s25, s26, s27, s28, s29, s30⟩
      go_simp
      with_reducible rfl
     rotate_left
     ·
      simp only [Act.put, List.setIfInBounds_toArray, List.set_cons_zero, List.set_cons_succ, i64_w, i32_w]
      rfl
     refine take_ (i := 7) (N := some 48) (v := ?_) (a' := ?_) #[true, true, true, true, true, true, true, true, false, false, false, false, false, false, false] rfl rfl (take_ofW HT_.out HW_.out (by kernel_rfl)) (fun _ _ _ h => h) (Or.inl ⟨by rfl, ?_⟩) hHeld ?_ ?_
     rotate_left
     ·
      rintro w' ⟨s0, s1, s2, s3, s4, s5, s6, s7, s8, s9, s10, s11, s12, s13, s14, s15, s16, s17, s18, s19, s20, s21, s22, s23, s24, s25, s26, s27, s28, s29, s30⟩
      go_simp
      with_reducible rfl
     rotate_left
     ·
      simp only [Act.put, List.setIfInBounds_toArray, List.set_cons_zero, List.set_cons_succ, i64_w, i32_w]
      rfl
     refine join_ (σ := Nat) 2 #[true, true, true, true, true, true, true, true, true, true, true, true, true, false, false] (fun s_ => [(49, .tuple #[.agg #[.string t150, .int .i64 t151, .int .i64 t152, .int .i64 t153, .int .i64 t154], .bool t155]), (8, .pointer (some ⟨s_, 0, none⟩)), (40, .tuple #[.agg #[.string t150, .int .i64 t151, .int .i64 t152, .int .i64 t153, .int .i64 t154], .bool t155]), (50, .agg #[.string t150, .int .i64 t151, .int .i64 t152, .int .i64 t153, .int .i64 t154]), (51, .bool t155)]) (fun s_ w' => (w'.cell? ⟨gb143, 0, none⟩ = some (.int .i64 a0_0) ∧ w'.cell? ⟨gb143, 1, none⟩ = some (.slice A0_1 l0_1.length c0_1) ∧ w'.cell? ⟨gb143, 2, none⟩ = some (.slice A0_2 l0_2.length c0_2) ∧ w'.cell? ⟨gb143, 3, none⟩ = some (.int .i64 a0_3) ∧ w'.cell? ⟨gb143, 4, none⟩ = some (.bool a0_4) ∧ w'.cell? ⟨gb143, 5, none⟩ = some (.slice A0_5 l0_5.length c0_5) ∧ w'.cell? ⟨gb143, 6, none⟩ = some (.slice (some ad145) l0_6.length c0_6) ∧ w'.cell? ⟨gb143, 7, none⟩ = some (.slice A0_7 l0_7.length c0_7) ∧ w'.cell? ⟨gb143, 8, none⟩ = some (.slice A0_8 l0_8.length c0_8) ∧ w'.cell? ⟨gb143, 9, none⟩ = some (.int .i64 a0_9) ∧ w'.cell? ⟨gb143, 10, none⟩ = some (.int .i64 a0_10) ∧ w'.cell? ⟨gb148, 0, none⟩ = some (.int .i64 ((rd_T81 ((rd_T79 l0_6 a1).f5) x6_2).f0)) ∧ w'.cell? ⟨gb148, 1, none⟩ = some (.string ((rd_T81 ((rd_T79 l0_6 a1).f5) x6_2).f1)) ∧ w'.cell? ⟨gb148, 2, none⟩ = some (.int .i64 ((rd_T81 ((rd_T79 l0_6 a1).f5) x6_2).f2)) ∧ w'.cell? ⟨gb148, 3, none⟩ = some (.int .i64 ((rd_T81 ((rd_T79 l0_6 a1).f5) x6_2).f3)) ∧ w'.cell? ⟨gb148, 4, none⟩ = some (.int .i64 ((rd_T81 ((rd_T79 l0_6 a1).f5) x6_2).f4)) ∧ w'.cell? ⟨gb148, 5, none⟩ = some (.string ((rd_T81 ((rd_T79 l0_6 a1).f5) x6_2).f5)) ∧ w'.cell? ⟨gb148, 6, none⟩ = some (.int .i64 ((rd_T81 ((rd_T79 l0_6 a1).f5) x6_2).f6)) ∧ w'.cell? ⟨gb148, 7, none⟩ = some (.int .i64 ((rd_T81 ((rd_T79 l0_6 a1).f5) x6_2).f7)) ∧ w'.cell? (ad145.add ((a1).toNat * 12)) = some (.int .i64 ((rd_T79 l0_6 a1).f0)) ∧ w'.cell? ⟨(ad145.add ((a1).toNat * 12)).block, (ad145.add ((a1).toNat * 12)).off + 1, none⟩ = some (.int .i64 ((rd_T79 l0_6 a1).f1)) ∧ w'.cell? ⟨(ad145.add ((a1).toNat * 12)).block, (ad145.add ((a1).toNat * 12)).off + 2, none⟩ = some (.int .i64 ((rd_T79 l0_6 a1).f2)) ∧ w'.cell? ⟨(ad145.add ((a1).toNat * 12)).block, (ad145.add ((a1).toNat * 12)).off + 3, none⟩ = some (.slice A149_3 ((rd_T79 l0_6 a1).f3).length c149_3) ∧ w'.cell? ⟨(ad145.add ((a1).toNat * 12)).block, (ad145.add ((a1).toNat * 12)).off + 4, none⟩ = some (.bool ((rd_T79 l0_6 a1).f4)) ∧ w'.cell? ⟨(ad145.add ((a1).toNat * 12)).block, (ad145.add ((a1).toNat * 12)).off + 5, none⟩ = some (.slice A149_5 ((rd_T79 l0_6 a1).f5).length c149_5) ∧ w'.cell? ⟨(ad145.add ((a1).toNat * 12)).block, (ad145.add ((a1).toNat * 12)).off + 6, none⟩ = some (.slice A149_6 ((rd_T79 l0_6 a1).f6).length c149_6) ∧ w'.cell? ⟨(ad145.add ((a1).toNat * 12)).block, (ad145.add ((a1).toNat * 12)).off + 7, none⟩ = some (.int .i64 ((rd_T79 l0_6 a1).f7)) ∧ w'.cell? ⟨(ad145.add ((a1).toNat * 12)).block, (ad145.add ((a1).toNat * 12)).off + 8, none⟩ = some (.int .i64 ((rd_T79 l0_6 a1).f8.f0)) ∧ w'.cell? ⟨(ad145.add ((a1).toNat * 12)).block, (ad145.add ((a1).toNat * 12)).off + 9, none⟩ = some (.int .i64 ((rd_T79 l0_6 a1).f8.f1)) ∧ w'.cell? ⟨(ad145.add ((a1).toNat * 12)).block, (ad145.add ((a1).toNat * 12)).off + 10, none⟩ = some (.int .i64 ((rd_T79 l0_6 a1).f8.f2)) ∧ w'.cell? ⟨(ad145.add ((a1).toNat * 12)).block, (ad145.add ((a1).toNat * 12)).off + 11, none⟩ = some (.int .i64 ((rd_T79 l0_6 a1).f8.f3))) ∧ (w'.heap[gb143]? = some (.cells #[.int .i64 a0_0, .slice A0_1 l0_1.length c0_1, .slice A0_2 l0_2.length c0_2, .int .i64 a0_3, .bool a0_4, .slice A0_5 l0_5.length c0_5, .slice (some ad145) l0_6.length c0_6, .slice A0_7 l0_7.length c0_7, .slice A0_8 l0_8.length c0_8, .int .i64 a0_9, .int .i64 a0_10] 47 (0, 0))) ∧ (w'.heap[gb148]? = some (.cells #[.int .i64 ((rd_T81 ((rd_T79 l0_6 a1).f5) x6_2).f0), .string ((rd_T81 ((rd_T79 l0_6 a1).f5) x6_2).f1), .int .i64 ((rd_T81 ((rd_T79 l0_6 a1).f5) x6_2).f2), .int .i64 ((rd_T81 ((rd_T79 l0_6 a1).f5) x6_2).f3), .int .i64 ((rd_T81 ((rd_T79 l0_6 a1).f5) x6_2).f4), .string ((rd_T81 ((rd_T79 l0_6 a1).f5) x6_2).f5), .int .i64 ((rd_T81 ((rd_T79 l0_6 a1).f5) x6_2).f6), .int .i64 ((rd_T81 ((rd_T79 l0_6 a1).f5) x6_2).f7)] 81 (0, 0))) ∧ (w'.heap[s_]? = some (.cells #[.string (⟨#[]⟩ : ByteArray), .int .i64 0, .int .i64 0, .int .i64 0, .int .i64 0] 83 (0, 0))) ∧ (w.heap.size ≤ s_) ∧ (w.heap.size ≤ s_) ∧ (gb143 ≠ s_) ∧ (s_ ≠ gb143) ∧ (gb148 ≠ s_) ∧ (s_ ≠ gb148) ∧ (Below w.heap.size w w')) ?_ ?_
     rotate_left
     ·
      intro hCont
      refine two_ (i := 8) (j := 12) (Ni := some 49) (Nj := some 8) #[true, true, true, true, true, true, true, true, true, false, false, false, false, false, false] #[true, true, true, true, true, true, true, true, false, false, false, false, true, false, false] rfl rfl rfl rfl (two_of HT_.out (by kernel_rfl)) (by decide) (by decide) (fun K hK => ?_) (fun K hK => ?_)
      ·
       skip
       refine goes_ Try.func38 (by kernel_rfl) rfl #[.slice A149_3 ((rd_T79 l0_6 a1).f3).length c149_3, .string ((rd_T81 ((rd_T79 l0_6 a1).f5) x6_2).f1)] (by rfl) rfl rfl (by (try simp only [List.map_toArray, List.map_cons, List.map_nil]); first | done | rfl | (simp only [List.length_drop, List.length_take]; rfl)) ?_
       with_reducible refine (spec_DbAt.calls k2 _ _ ((rd_T79 l0_6 a1).f3) ((rd_T81 ((rd_T79 l0_6 a1).f5) x6_2).f1) t150 t151 t152 t153 t154 t155 _ ?side1 ?side2 A13.out).mono ?_
       (case side1 => exact Kd.C_below HR149_3.out (xb HB.out))
       (case side2 => exact HC149_3.out)
       rintro e w22 ⟨rfl, hb⟩
       refine ⟨_, rfl, ?_⟩
       have n0_ := Aside0.mk (blk_below (g := gb143) (xg BK143.out) hb)
       have n1_ := Aside0.mk (blk_below (g := gb148) (xg BK148.out) hb)
       have n2_ := Aside0.mk (below_step (by repeat (first | (with_reducible first | exact HB.out | apply below_alloc | apply pw_below_drewN | apply below_drew1 | refine below_set ?_ GE143.out | refine below_set ?_ GE148.out) | exact HB.out)) hb)
       clear BK143
       clear BK148
       clear HB
       have BK143 := n0_
       have BK148 := n1_
       have HB := n2_
       clear n0_ n1_ n2_
       (try clear hb)
       (try clear hb2)
       (try clear hk)
       (try clear hi)
       refine hK.out _ _ ⟨(blk_cell BK143.out 0).trans rfl, (blk_cell BK143.out 1).trans rfl, (blk_cell BK143.out 2).trans rfl, (blk_cell BK143.out 3).trans rfl, (blk_cell BK143.out 4).trans rfl, (blk_cell BK143.out 5).trans rfl, (blk_cell BK143.out 6).trans rfl, (blk_cell BK143.out 7).trans rfl, (blk_cell BK143.out 8).trans rfl, (blk_cell BK143.out 9).trans rfl, (blk_cell BK143.out 10).trans rfl, (blk_cell BK148.out 0).trans rfl, (blk_cell BK148.out 1).trans rfl, (blk_cell BK148.out 2).trans rfl, (blk_cell BK148.out 3).trans rfl, (blk_cell BK148.out 4).trans rfl, (blk_cell BK148.out 5).trans rfl, (blk_cell BK148.out 6).trans rfl, (blk_cell BK148.out 7).trans rfl, ((HB.out.cell (World.block_lt_of_cell? w _ hw149_0)).trans hw149_0), ((HB.out.cell (World.block_lt_of_cell? w _ hw149_1)).trans hw149_1), ((HB.out.cell (World.block_lt_of_cell? w _ hw149_2)).trans hw149_2), ((HB.out.cell (World.block_lt_of_cell? w _ hw149_3)).trans hw149_3), ((HB.out.cell (World.block_lt_of_cell? w _ hw149_4)).trans hw149_4), ((HB.out.cell (World.block_lt_of_cell? w _ hw149_5)).trans hw149_5), ((HB.out.cell (World.block_lt_of_cell? w _ hw149_6)).trans hw149_6), ((HB.out.cell (World.block_lt_of_cell? w _ hw149_7)).trans hw149_7), ((HB.out.cell (World.block_lt_of_cell? w _ hw149_8)).trans hw149_8), ((HB.out.cell (World.block_lt_of_cell? w _ hw149_9)).trans hw149_9), ((HB.out.cell (World.block_lt_of_cell? w _ hw149_10)).trans hw149_10), ((HB.out.cell (World.block_lt_of_cell? w _ hw149_11)).trans hw149_11)⟩ (fun hHeld => ?_)
       clear hK K
       refine norm_ (a' := ?_) ?_ ?_
       rotate_left
       ·
        show Act.put _ (some 49) _ = _
        simp only [Act.put, List.setIfInBounds_toArray, List.set_cons_zero, List.set_cons_succ, i64_w, i32_w]
        rfl
       refine pure_ (i := 9) (N := some 40) (v := ?_) (a' := ?_) #[true, true, true, true, true, true, true, true, true, true, false, false, false, false, false] rfl rfl (any_of HT_.out (by kernel_rfl)) (fun _ _ _ h => h) (Or.inl ⟨by rfl, ?_⟩) ?_ ?_
       rotate_left
       ·
        intro w'
        go_simp
        with_reducible rfl
       rotate_left
       ·
        simp only [Act.put, List.setIfInBounds_toArray, List.set_cons_zero, List.set_cons_succ, i64_w, i32_w]
        rfl
       refine pure_ (i := 10) (N := some 50) (v := ?_) (a' := ?_) #[true, true, true, true, true, true, true, true, true, true, true, false, false, false, false] rfl rfl (any_of HT_.out (by kernel_rfl)) (fun _ _ _ h => h) (Or.inl ⟨by rfl, ?_⟩) ?_ ?_
       rotate_left
       ·
        intro w'
        go_simp
        with_reducible rfl
       rotate_left
       ·
        simp only [Act.put, List.setIfInBounds_toArray, List.set_cons_zero, List.set_cons_succ, i64_w, i32_w]
        rfl
       refine pure_ (i := 11) (N := some 51) (v := ?_) (a' := ?_) #[true, true, true, true, true, true, true, true, true, true, true, true, false, false, false] rfl rfl (any_of HT_.out (by kernel_rfl)) (fun _ _ _ h => h) (Or.inl ⟨by rfl, ?_⟩) ?_ ?_
       rotate_left
       ·
        intro w'
        go_simp
        with_reducible rfl
       rotate_left
       ·
        simp only [Act.put, List.setIfInBounds_toArray, List.set_cons_zero, List.set_cons_succ, i64_w, i32_w]
        rfl
       refine one_ (i := 12) (N := some 8) #[true, true, true, true, true, true, true, true, true, true, true, true, true, false, false] rfl rfl (one_of HT_.out (by kernel_rfl)) (by decide) (fun K hK => ?_)
       refine box_step ?hg (N := 8) ?hd (cs := #[.string (⟨#[]⟩ : ByteArray), .int .i64 0, .int .i64 0, .int .i64 0, .int .i64 0]) (t := 83) ?hr ?_; (case hd => rfl); (case hg => rfl); (case hr => first | (go_simp; done) | (go_simp; rfl))
       intro gb156 hg w23 hbox hb
       have n0_ := Aside0.mk (blk_below (g := gb143) (xg BK143.out) hb)
       have n1_ := Aside0.mk (blk_below (g := gb148) (xg BK148.out) hb)
       have n2_ := Aside0.mk (below_step (xb HB.out) hb)
       have n3_ := Aside0.mk (hbox)
       have n4_ := Aside0.mk ((by rw [hg]; exact (below_size (xb HB.out)) : w.heap.size ≤ gb156))
       have n5_ := Aside0.mk ((by rw [hg]; exact (below_size (xb HB.out)) : w.heap.size ≤ gb156))
       have n6_ := Aside0.mk (xlt (g := gb143) hg (xg BK143.out))
       have n7_ := Aside0.mk n6_.out.symm
       have n8_ := Aside0.mk (xlt (g := gb148) hg (xg BK148.out))
       have n9_ := Aside0.mk n8_.out.symm
       clear BK143
       clear BK148
       clear HB
       have BK143 := n0_
       have BK148 := n1_
       have HB := n2_
       have BK156 := n3_
       have GW156 := n4_
       have GE156 := n5_
       have NB143_156 := n6_
       have NB156_143 := n7_
       have NB148_156 := n8_
       have NB156_148 := n9_
       clear n0_ n1_ n2_ n3_ n4_ n5_ n6_ n7_ n8_ n9_
       clear hb hbox hg
       refine hK.out _ _ ⟨(blk_cell BK143.out 0).trans rfl, (blk_cell BK143.out 1).trans rfl, (blk_cell BK143.out 2).trans rfl, (blk_cell BK143.out 3).trans rfl, (blk_cell BK143.out 4).trans rfl, (blk_cell BK143.out 5).trans rfl, (blk_cell BK143.out 6).trans rfl, (blk_cell BK143.out 7).trans rfl, (blk_cell BK143.out 8).trans rfl, (blk_cell BK143.out 9).trans rfl, (blk_cell BK143.out 10).trans rfl, (blk_cell BK148.out 0).trans rfl, (blk_cell BK148.out 1).trans rfl, (blk_cell BK148.out 2).trans rfl, (blk_cell BK148.out 3).trans rfl, (blk_cell BK148.out 4).trans rfl, (blk_cell BK148.out 5).trans rfl, (blk_cell BK148.out 6).trans rfl, (blk_cell BK148.out 7).trans rfl, ((HB.out.cell (World.block_lt_of_cell? w _ hw149_0)).trans hw149_0), ((HB.out.cell (World.block_lt_of_cell? w _ hw149_1)).trans hw149_1), ((HB.out.cell (World.block_lt_of_cell? w _ hw149_2)).trans hw149_2), ((HB.out.cell (World.block_lt_of_cell? w _ hw149_3)).trans hw149_3), ((HB.out.cell (World.block_lt_of_cell? w _ hw149_4)).trans hw149_4), ((HB.out.cell (World.block_lt_of_cell? w _ hw149_5)).trans hw149_5), ((HB.out.cell (World.block_lt_of_cell? w _ hw149_6)).trans hw149_6), ((HB.out.cell (World.block_lt_of_cell? w _ hw149_7)).trans hw149_7), ((HB.out.cell (World.block_lt_of_cell? w _ hw149_8)).trans hw149_8), ((HB.out.cell (World.block_lt_of_cell? w _ hw149_9)).trans hw149_9), ((HB.out.cell (World.block_lt_of_cell? w _ hw149_10)).trans hw149_10), ((HB.out.cell (World.block_lt_of_cell? w _ hw149_11)).trans hw149_11)⟩ (fun hHeld => ?_)
       clear hK K
       refine norm_ (a' := ?_) ?_ ?_
       rotate_left
       ·
        show Act.put _ (some 8) _ = _
        simp only [Act.put, List.setIfInBounds_toArray, List.set_cons_zero, List.set_cons_succ, i64_w, i32_w]
        rfl
       exact norm_ (by simp only [putAll, Act.put, List.setIfInBounds_toArray, List.set_cons_zero, List.set_cons_succ]) (hCont (gb156) _ ⟨hHeld, (xg BK143.out), (xg BK148.out), (xg BK156.out), GW156.out, GE156.out, NB143_156.out, NB156_143.out, NB148_156.out, NB156_148.out, (by repeat (first | (with_reducible first | exact HB.out | apply below_alloc | apply pw_below_drewN | apply below_drew1 | refine below_set ?_ GE143.out | refine below_set ?_ GE148.out | refine below_set ?_ GE156.out) | exact HB.out))⟩)
      skip
      refine box_step ?hg (N := 8) ?hd (cs := #[.string (⟨#[]⟩ : ByteArray), .int .i64 0, .int .i64 0, .int .i64 0, .int .i64 0]) (t := 83) ?hr ?_; (case hd => rfl); (case hg => rfl); (case hr => first | (go_simp; done) | (go_simp; rfl))
      intro gb156 hg w22 hbox hb
      have n0_ := Aside0.mk (blk_below (g := gb143) (xg BK143.out) hb)
      have n1_ := Aside0.mk (blk_below (g := gb148) (xg BK148.out) hb)
      have n2_ := Aside0.mk (below_step (xb HB.out) hb)
      have n3_ := Aside0.mk (hbox)
      have n4_ := Aside0.mk ((by rw [hg]; exact (below_size (xb HB.out)) : w.heap.size ≤ gb156))
      have n5_ := Aside0.mk ((by rw [hg]; exact (below_size (xb HB.out)) : w.heap.size ≤ gb156))
      have n6_ := Aside0.mk (xlt (g := gb143) hg (xg BK143.out))
      have n7_ := Aside0.mk n6_.out.symm
      have n8_ := Aside0.mk (xlt (g := gb148) hg (xg BK148.out))
      have n9_ := Aside0.mk n8_.out.symm
      clear BK143
      clear BK148
      clear HB
      have BK143 := n0_
      have BK148 := n1_
      have HB := n2_
      have BK156 := n3_
      have GW156 := n4_
      have GE156 := n5_
      have NB143_156 := n6_
      have NB156_143 := n7_
      have NB148_156 := n8_
      have NB156_148 := n9_
      clear n0_ n1_ n2_ n3_ n4_ n5_ n6_ n7_ n8_ n9_
      clear hb hbox hg
      refine hK.out _ _ ⟨(blk_cell BK143.out 0).trans rfl, (blk_cell BK143.out 1).trans rfl, (blk_cell BK143.out 2).trans rfl, (blk_cell BK143.out 3).trans rfl, (blk_cell BK143.out 4).trans rfl, (blk_cell BK143.out 5).trans rfl, (blk_cell BK143.out 6).trans rfl, (blk_cell BK143.out 7).trans rfl, (blk_cell BK143.out 8).trans rfl, (blk_cell BK143.out 9).trans rfl, (blk_cell BK143.out 10).trans rfl, (blk_cell BK148.out 0).trans rfl, (blk_cell BK148.out 1).trans rfl, (blk_cell BK148.out 2).trans rfl, (blk_cell BK148.out 3).trans rfl, (blk_cell BK148.out 4).trans rfl, (blk_cell BK148.out 5).trans rfl, (blk_cell BK148.out 6).trans rfl, (blk_cell BK148.out 7).trans rfl, ((HB.out.cell (World.block_lt_of_cell? w _ hw149_0)).trans hw149_0), ((HB.out.cell (World.block_lt_of_cell? w _ hw149_1)).trans hw149_1), ((HB.out.cell (World.block_lt_of_cell? w _ hw149_2)).trans hw149_2), ((HB.out.cell (World.block_lt_of_cell? w _ hw149_3)).trans hw149_3), ((HB.out.cell (World.block_lt_of_cell? w _ hw149_4)).trans hw149_4), ((HB.out.cell (World.block_lt_of_cell? w _ hw149_5)).trans hw149_5), ((HB.out.cell (World.block_lt_of_cell? w _ hw149_6)).trans hw149_6), ((HB.out.cell (World.block_lt_of_cell? w _ hw149_7)).trans hw149_7), ((HB.out.cell (World.block_lt_of_cell? w _ hw149_8)).trans hw149_8), ((HB.out.cell (World.block_lt_of_cell? w _ hw149_9)).trans hw149_9), ((HB.out.cell (World.block_lt_of_cell? w _ hw149_10)).trans hw149_10), ((HB.out.cell (World.block_lt_of_cell? w _ hw149_11)).trans hw149_11)⟩ (fun hHeld => ?_)
      clear hK K
      refine norm_ (a' := ?_) ?_ ?_
      rotate_left
      ·
       show Act.put _ (some 8) _ = _
       simp only [Act.put, List.setIfInBounds_toArray, List.set_cons_zero, List.set_cons_succ, i64_w, i32_w]
       rfl
      refine one_ (i := 8) (N := some 49) #[true, true, true, true, true, true, true, true, true, false, false, false, true, false, false] rfl rfl (one_of HT_.out (by kernel_rfl)) (by decide) (fun K hK => ?_)
      refine goes_ Try.func38 (by kernel_rfl) rfl #[.slice A149_3 ((rd_T79 l0_6 a1).f3).length c149_3, .string ((rd_T81 ((rd_T79 l0_6 a1).f5) x6_2).f1)] (by rfl) rfl rfl (by (try simp only [List.map_toArray, List.map_cons, List.map_nil]); first | done | rfl | (simp only [List.length_drop, List.length_take]; rfl)) ?_
      with_reducible refine (spec_DbAt.calls k2 _ _ ((rd_T79 l0_6 a1).f3) ((rd_T81 ((rd_T79 l0_6 a1).f5) x6_2).f1) t150 t151 t152 t153 t154 t155 _ ?side1 ?side2 A13.out).mono ?_
      (case side1 => exact Kd.C_below HR149_3.out (xb HB.out))
      (case side2 => exact HC149_3.out)
      rintro e w23 ⟨rfl, hb⟩
      refine ⟨_, rfl, ?_⟩
      have n0_ := Aside0.mk (blk_below (g := gb143) (xg BK143.out) hb)
      have n1_ := Aside0.mk (blk_below (g := gb148) (xg BK148.out) hb)
      have n2_ := Aside0.mk (blk_below (g := gb156) (o := .cells #[.string (⟨#[]⟩ : ByteArray), .int .i64 0, .int .i64 0, .int .i64 0, .int .i64 0] 83 (0, 0)) (xg BK156.out) hb)
      have n3_ := Aside0.mk (below_step (by repeat (first | (with_reducible first | exact HB.out | apply below_alloc | apply pw_below_drewN | apply below_drew1 | refine below_set ?_ GE143.out | refine below_set ?_ GE148.out | refine below_set ?_ GE156.out) | exact HB.out)) hb)
      clear BK143
      clear BK148
      clear BK156
      clear HB
      have BK143 := n0_
      have BK148 := n1_
      have BK156 := n2_
      have HB := n3_
      clear n0_ n1_ n2_ n3_
      (try clear hb)
      (try clear hb2)
      (try clear hk)
      (try clear hi)
      refine hK.out _ _ ⟨(blk_cell BK143.out 0).trans rfl, (blk_cell BK143.out 1).trans rfl, (blk_cell BK143.out 2).trans rfl, (blk_cell BK143.out 3).trans rfl, (blk_cell BK143.out 4).trans rfl, (blk_cell BK143.out 5).trans rfl, (blk_cell BK143.out 6).trans rfl, (blk_cell BK143.out 7).trans rfl, (blk_cell BK143.out 8).trans rfl, (blk_cell BK143.out 9).trans rfl, (blk_cell BK143.out 10).trans rfl, (blk_cell BK148.out 0).trans rfl, (blk_cell BK148.out 1).trans rfl, (blk_cell BK148.out 2).trans rfl, (blk_cell BK148.out 3).trans rfl, (blk_cell BK148.out 4).trans rfl, (blk_cell BK148.out 5).trans rfl, (blk_cell BK148.out 6).trans rfl, (blk_cell BK148.out 7).trans rfl, ((HB.out.cell (World.block_lt_of_cell? w _ hw149_0)).trans hw149_0), ((HB.out.cell (World.block_lt_of_cell? w _ hw149_1)).trans hw149_1), ((HB.out.cell (World.block_lt_of_cell? w _ hw149_2)).trans hw149_2), ((HB.out.cell (World.block_lt_of_cell? w _ hw149_3)).trans hw149_3), ((HB.out.cell (World.block_lt_of_cell? w _ hw149_4)).trans hw149_4), ((HB.out.cell (World.block_lt_of_cell? w _ hw149_5)).trans hw149_5), ((HB.out.cell (World.block_lt_of_cell? w _ hw149_6)).trans hw149_6), ((HB.out.cell (World.block_lt_of_cell? w _ hw149_7)).trans hw149_7), ((HB.out.cell (World.block_lt_of_cell? w _ hw149_8)).trans hw149_8), ((HB.out.cell (World.block_lt_of_cell? w _ hw149_9)).trans hw149_9), ((HB.out.cell (World.block_lt_of_cell? w _ hw149_10)).trans hw149_10), ((HB.out.cell (World.block_lt_of_cell? w _ hw149_11)).trans hw149_11)⟩ (fun hHeld => ?_)
      clear hK K
      refine norm_ (a' := ?_) ?_ ?_
      rotate_left
      ·
       show Act.put _ (some 49) _ = _
       simp only [Act.put, List.setIfInBounds_toArray, List.set_cons_zero, List.set_cons_succ, i64_w, i32_w]
       rfl
      refine pure_ (i := 9) (N := some 40) (v := ?_) (a' := ?_) #[true, true, true, true, true, true, true, true, true, true, false, false, true, false, false] rfl rfl (any_of HT_.out (by kernel_rfl)) (fun _ _ _ h => h) (Or.inl ⟨by rfl, ?_⟩) ?_ ?_
      rotate_left
      ·
       intro w'
       go_simp
       with_reducible rfl
      rotate_left
      ·
       simp only [Act.put, List.setIfInBounds_toArray, List.set_cons_zero, List.set_cons_succ, i64_w, i32_w]
       rfl
      refine pure_ (i := 10) (N := some 50) (v := ?_) (a' := ?_) #[true, true, true, true, true, true, true, true, true, true, true, false, true, false, false] rfl rfl (any_of HT_.out (by kernel_rfl)) (fun _ _ _ h => h) (Or.inl ⟨by rfl, ?_⟩) ?_ ?_
      rotate_left
      ·
       intro w'
       go_simp
       with_reducible rfl
      rotate_left
      ·
       simp only [Act.put, List.setIfInBounds_toArray, List.set_cons_zero, List.set_cons_succ, i64_w, i32_w]
       rfl
      refine pure_ (i := 11) (N := some 51) (v := ?_) (a' := ?_) #[true, true, true, true, true, true, true, true, true, true, true, true, true, false, false] rfl rfl (any_of HT_.out (by kernel_rfl)) (fun _ _ _ h => h) (Or.inl ⟨by rfl, ?_⟩) ?_ ?_
      rotate_left
      ·
       intro w'
       go_simp
       with_reducible rfl
      rotate_left
      ·
       simp only [Act.put, List.setIfInBounds_toArray, List.set_cons_zero, List.set_cons_succ, i64_w, i32_w]
       rfl
      exact norm_ (by simp only [putAll, Act.put, List.setIfInBounds_toArray, List.set_cons_zero, List.set_cons_succ]) (hCont (gb156) _ ⟨hHeld, (xg BK143.out), (xg BK148.out), (xg BK156.out), GW156.out, GE156.out, NB143_156.out, NB156_143.out, NB148_156.out, NB156_148.out, (by repeat (first | (with_reducible first | exact HB.out | apply below_alloc | apply pw_below_drewN | apply below_drew1 | refine below_set ?_ GE143.out | refine below_set ?_ GE148.out | refine below_set ?_ GE156.out) | exact HB.out))⟩)
     rintro gb156 w24 ⟨hS_, h0_, h1_, h2_, h3_, h4_, h5_, h6_, h7_, h8_, h9_⟩
     have n0_ : Aside0 (w24.heap[gb143]? = some (.cells #[.int .i64 a0_0, .slice A0_1 l0_1.length c0_1, .slice A0_2 l0_2.length c0_2, .int .i64 a0_3, .bool a0_4, .slice A0_5 l0_5.length c0_5, .slice (some ad145) l0_6.length c0_6, .slice A0_7 l0_7.length c0_7, .slice A0_8 l0_8.length c0_8, .int .i64 a0_9, .int .i64 a0_10] 47 (0, 0))) := ⟨h0_⟩
     have n1_ : Aside0 (w24.heap[gb148]? = some (.cells #[.int .i64 ((rd_T81 ((rd_T79 l0_6 a1).f5) x6_2).f0), .string ((rd_T81 ((rd_T79 l0_6 a1).f5) x6_2).f1), .int .i64 ((rd_T81 ((rd_T79 l0_6 a1).f5) x6_2).f2), .int .i64 ((rd_T81 ((rd_T79 l0_6 a1).f5) x6_2).f3), .int .i64 ((rd_T81 ((rd_T79 l0_6 a1).f5) x6_2).f4), .string ((rd_T81 ((rd_T79 l0_6 a1).f5) x6_2).f5), .int .i64 ((rd_T81 ((rd_T79 l0_6 a1).f5) x6_2).f6), .int .i64 ((rd_T81 ((rd_T79 l0_6 a1).f5) x6_2).f7)] 81 (0, 0))) := ⟨h1_⟩
     have n2_ : Aside0 (w24.heap[gb156]? = some (.cells #[.string (⟨#[]⟩ : ByteArray), .int .i64 0, .int .i64 0, .int .i64 0, .int .i64 0] 83 (0, 0))) := ⟨h2_⟩
     have n3_ : Aside0 (w.heap.size ≤ gb156) := ⟨h3_⟩
     have n4_ : Aside0 (w.heap.size ≤ gb156) := ⟨h4_⟩
     have n5_ : Aside0 (gb143 ≠ gb156) := ⟨h5_⟩
     have n6_ : Aside0 (gb156 ≠ gb143) := ⟨h6_⟩
     have n7_ : Aside0 (gb148 ≠ gb156) := ⟨h7_⟩
     have n8_ : Aside0 (gb156 ≠ gb148) := ⟨h8_⟩
     have n9_ : Aside0 (Below w.heap.size w w24) := ⟨h9_⟩
     clear BK143
     clear BK148
     clear HB
     clear h0_ h1_ h2_ h3_ h4_ h5_ h6_ h7_ h8_ h9_
     have BK143 := n0_
     have BK148 := n1_
     have BK156 := n2_
     have GW156 := n3_
     have GE156 := n4_
     have NB143_156 := n5_
     have NB156_143 := n6_
     have NB148_156 := n7_
     have NB156_148 := n8_
     have HB := n9_
     clear n0_ n1_ n2_ n3_ n4_ n5_ n6_ n7_ n8_ n9_
     have hHeld : w24.cell? ⟨gb143, 0, none⟩ = some (.int .i64 a0_0) ∧ w24.cell? ⟨gb143, 1, none⟩ = some (.slice A0_1 l0_1.length c0_1) ∧ w24.cell? ⟨gb143, 2, none⟩ = some (.slice A0_2 l0_2.length c0_2) ∧ w24.cell? ⟨gb143, 3, none⟩ = some (.int .i64 a0_3) ∧ w24.cell? ⟨gb143, 4, none⟩ = some (.bool a0_4) ∧ w24.cell? ⟨gb143, 5, none⟩ = some (.slice A0_5 l0_5.length c0_5) ∧ w24.cell? ⟨gb143, 6, none⟩ = some (.slice (some ad145) l0_6.length c0_6) ∧ w24.cell? ⟨gb143, 7, none⟩ = some (.slice A0_7 l0_7.length c0_7) ∧ w24.cell? ⟨gb143, 8, none⟩ = some (.slice A0_8 l0_8.length c0_8) ∧ w24.cell? ⟨gb143, 9, none⟩ = some (.int .i64 a0_9) ∧ w24.cell? ⟨gb143, 10, none⟩ = some (.int .i64 a0_10) ∧ w24.cell? ⟨gb148, 0, none⟩ = some (.int .i64 ((rd_T81 ((rd_T79 l0_6 a1).f5) x6_2).f0)) ∧ w24.cell? ⟨gb148, 1, none⟩ = some (.string ((rd_T81 ((rd_T79 l0_6 a1).f5) x6_2).f1)) ∧ w24.cell? ⟨gb148, 2, none⟩ = some (.int .i64 ((rd_T81 ((rd_T79 l0_6 a1).f5) x6_2).f2)) ∧ w24.cell? ⟨gb148, 3, none⟩ = some (.int .i64 ((rd_T81 ((rd_T79 l0_6 a1).f5) x6_2).f3)) ∧ w24.cell? ⟨gb148, 4, none⟩ = some (.int .i64 ((rd_T81 ((rd_T79 l0_6 a1).f5) x6_2).f4)) ∧ w24.cell? ⟨gb148, 5, none⟩ = some (.string ((rd_T81 ((rd_T79 l0_6 a1).f5) x6_2).f5)) ∧ w24.cell? ⟨gb148, 6, none⟩ = some (.int .i64 ((rd_T81 ((rd_T79 l0_6 a1).f5) x6_2).f6)) ∧ w24.cell? ⟨gb148, 7, none⟩ = some (.int .i64 ((rd_T81 ((rd_T79 l0_6 a1).f5) x6_2).f7)) ∧ w24.cell? (ad145.add ((a1).toNat * 12)) = some (.int .i64 ((rd_T79 l0_6 a1).f0)) ∧ w24.cell? ⟨(ad145.add ((a1).toNat * 12)).block, (ad145.add ((a1).toNat * 12)).off + 1, none⟩ = some (.int .i64 ((rd_T79 l0_6 a1).f1)) ∧ w24.cell? ⟨(ad145.add ((a1).toNat * 12)).block, (ad145.add ((a1).toNat * 12)).off + 2, none⟩ = some (.int .i64 ((rd_T79 l0_6 a1).f2)) ∧ w24.cell? ⟨(ad145.add ((a1).toNat * 12)).block, (ad145.add ((a1).toNat * 12)).off + 3, none⟩ = some (.slice A149_3 ((rd_T79 l0_6 a1).f3).length c149_3) ∧ w24.cell? ⟨(ad145.add ((a1).toNat * 12)).block, (ad145.add ((a1).toNat * 12)).off + 4, none⟩ = some (.bool ((rd_T79 l0_6 a1).f4)) ∧ w24.cell? ⟨(ad145.add ((a1).toNat * 12)).block, (ad145.add ((a1).toNat * 12)).off + 5, none⟩ = some (.slice A149_5 ((rd_T79 l0_6 a1).f5).length c149_5) ∧ w24.cell? ⟨(ad145.add ((a1).toNat * 12)).block, (ad145.add ((a1).toNat * 12)).off + 6, none⟩ = some (.slice A149_6 ((rd_T79 l0_6 a1).f6).length c149_6) ∧ w24.cell? ⟨(ad145.add ((a1).toNat * 12)).block, (ad145.add ((a1).toNat * 12)).off + 7, none⟩ = some (.int .i64 ((rd_T79 l0_6 a1).f7)) ∧ w24.cell? ⟨(ad145.add ((a1).toNat * 12)).block, (ad145.add ((a1).toNat * 12)).off + 8, none⟩ = some (.int .i64 ((rd_T79 l0_6 a1).f8.f0)) ∧ w24.cell? ⟨(ad145.add ((a1).toNat * 12)).block, (ad145.add ((a1).toNat * 12)).off + 9, none⟩ = some (.int .i64 ((rd_T79 l0_6 a1).f8.f1)) ∧ w24.cell? ⟨(ad145.add ((a1).toNat * 12)).block, (ad145.add ((a1).toNat * 12)).off + 10, none⟩ = some (.int .i64 ((rd_T79 l0_6 a1).f8.f2)) ∧ w24.cell? ⟨(ad145.add ((a1).toNat * 12)).block, (ad145.add ((a1).toNat * 12)).off + 11, none⟩ = some (.int .i64 ((rd_T79 l0_6 a1).f8.f3)) := hS_
     refine norm_ (a' := ?_) ?_ ?_
     rotate_left
     ·
      simp only [putAll, Act.put, List.setIfInBounds_toArray, List.set_cons_zero, List.set_cons_succ]
      rfl
     refine one_ (i := 13) (N := none) #[true, true, true, true, true, true, true, true, true, true, true, true, true, true, false] rfl rfl (one_of HT_.out (by kernel_rfl)) (by decide) (fun K hK => ?_)
     have hs25 : w24.cell? ⟨gb156, 0, none⟩ = some (.string (⟨#[]⟩ : ByteArray)) := (blk_cell BK156.out 0).trans rfl
     have hfs25 := blk_frozen BK156.out 0
     have hns25_0 := NB143_156.out
     have hns25_1 := NB148_156.out
     have hms25_0 := NB156_143.out
     have hms25_1 := NB156_148.out
     have hs26 : w24.cell? ⟨gb156, 1, none⟩ = some (.int .i64 0) := (blk_cell BK156.out 1).trans rfl
     have hfs26 := blk_frozen BK156.out 1
     have hns26_0 := NB143_156.out
     have hns26_1 := NB148_156.out
     have hms26_0 := NB156_143.out
     have hms26_1 := NB156_148.out
     have hs27 : w24.cell? ⟨gb156, 2, none⟩ = some (.int .i64 0) := (blk_cell BK156.out 2).trans rfl
     have hfs27 := blk_frozen BK156.out 2
     have hns27_0 := NB143_156.out
     have hns27_1 := NB148_156.out
     have hms27_0 := NB156_143.out
     have hms27_1 := NB156_148.out
     have hs28 : w24.cell? ⟨gb156, 3, none⟩ = some (.int .i64 0) := (blk_cell BK156.out 3).trans rfl
     have hfs28 := blk_frozen BK156.out 3
     have hns28_0 := NB143_156.out
     have hns28_1 := NB148_156.out
     have hms28_0 := NB156_143.out
     have hms28_1 := NB156_148.out
     have hs29 : w24.cell? ⟨gb156, 4, none⟩ = some (.int .i64 0) := (blk_cell BK156.out 4).trans rfl
     have hfs29 := blk_frozen BK156.out 4
     have hns29_0 := NB143_156.out
     have hns29_1 := NB148_156.out
     have hms29_0 := NB156_143.out
     have hms29_1 := NB156_148.out
     refine skip_ (w1 := ?_) (by rfl) rfl ?_ ?_
     rotate_left
     ·
      go_simp
      rfl
     refine hK.out _ _ ⟨(xfar5 NB143_156.out (hHeld.1)), (xfar5 NB143_156.out (hHeld.2.1)), (xfar5 NB143_156.out (hHeld.2.2.1)), (xfar5 NB143_156.out (hHeld.2.2.2.1)), (xfar5 NB143_156.out (hHeld.2.2.2.2.1)), (xfar5 NB143_156.out (hHeld.2.2.2.2.2.1)), (xfar5 NB143_156.out (hHeld.2.2.2.2.2.2.1)), (xfar5 NB143_156.out (hHeld.2.2.2.2.2.2.2.1)), (xfar5 NB143_156.out (hHeld.2.2.2.2.2.2.2.2.1)), (xfar5 NB143_156.out (hHeld.2.2.2.2.2.2.2.2.2.1)), (xfar5 NB143_156.out (hHeld.2.2.2.2.2.2.2.2.2.2.1)), (xfar5 NB148_156.out (hHeld.2.2.2.2.2.2.2.2.2.2.2.1)), (xfar5 NB148_156.out (hHeld.2.2.2.2.2.2.2.2.2.2.2.2.1)), (xfar5 NB148_156.out (hHeld.2.2.2.2.2.2.2.2.2.2.2.2.2.1)), (xfar5 NB148_156.out (hHeld.2.2.2.2.2.2.2.2.2.2.2.2.2.2.1)), (xfar5 NB148_156.out (hHeld.2.2.2.2.2.2.2.2.2.2.2.2.2.2.2.1)), (xfar5 NB148_156.out (hHeld.2.2.2.2.2.2.2.2.2.2.2.2.2.2.2.2.1)), (xfar5 NB148_156.out (hHeld.2.2.2.2.2.2.2.2.2.2.2.2.2.2.2.2.2.1)), (xfar5 NB148_156.out (hHeld.2.2.2.2.2.2.2.2.2.2.2.2.2.2.2.2.2.2.1)), (xfar5 (by first | exact xnl hw149_0 GW156.out | simpa only [add_block] using xnl hw149_0 GW156.out) (hHeld.2.2.2.2.2.2.2.2.2.2.2.2.2.2.2.2.2.2.2.1)), (xfar5 (by first | exact xnl hw149_1 GW156.out | simpa only [add_block] using xnl hw149_1 GW156.out) (hHeld.2.2.2.2.2.2.2.2.2.2.2.2.2.2.2.2.2.2.2.2.1)), (xfar5 (by first | exact xnl hw149_2 GW156.out | simpa only [add_block] using xnl hw149_2 GW156.out) (hHeld.2.2.2.2.2.2.2.2.2.2.2.2.2.2.2.2.2.2.2.2.2.1)), (xfar5 (by first | exact xnl hw149_3 GW156.out | simpa only [add_block] using xnl hw149_3 GW156.out) (hHeld.2.2.2.2.2.2.2.2.2.2.2.2.2.2.2.2.2.2.2.2.2.2.1)), (xfar5 (by first | exact xnl hw149_4 GW156.out | simpa only [add_block] using xnl hw149_4 GW156.out) (hHeld.2.2.2.2.2.2.2.2.2.2.2.2.2.2.2.2.2.2.2.2.2.2.2.1)), (xfar5 (by first | exact xnl hw149_5 GW156.out | simpa only [add_block] using xnl hw149_5 GW156.out) (hHeld.2.2.2.2.2.2.2.2.2.2.2.2.2.2.2.2.2.2.2.2.2.2.2.2.1)), (xfar5 (by first | exact xnl hw149_6 GW156.out | simpa only [add_block] using xnl hw149_6 GW156.out) (hHeld.2.2.2.2.2.2.2.2.2.2.2.2.2.2.2.2.2.2.2.2.2.2.2.2.2.1)), (xfar5 (by first | exact xnl hw149_7 GW156.out | simpa only [add_block] using xnl hw149_7 GW156.out) (hHeld.2.2.2.2.2.2.2.2.2.2.2.2.2.2.2.2.2.2.2.2.2.2.2.2.2.2.1)), (xfar5 (by first | exact xnl hw149_8 GW156.out | simpa only [add_block] using xnl hw149_8 GW156.out) (hHeld.2.2.2.2.2.2.2.2.2.2.2.2.2.2.2.2.2.2.2.2.2.2.2.2.2.2.2.1)), (xfar5 (by first | exact xnl hw149_9 GW156.out | simpa only [add_block] using xnl hw149_9 GW156.out) (hHeld.2.2.2.2.2.2.2.2.2.2.2.2.2.2.2.2.2.2.2.2.2.2.2.2.2.2.2.2.1)), (xfar5 (by first | exact xnl hw149_10 GW156.out | simpa only [add_block] using xnl hw149_10 GW156.out) (hHeld.2.2.2.2.2.2.2.2.2.2.2.2.2.2.2.2.2.2.2.2.2.2.2.2.2.2.2.2.2.1)), (xfar5 (by first | exact xnl hw149_11 GW156.out | simpa only [add_block] using xnl hw149_11 GW156.out) (hHeld.2.2.2.2.2.2.2.2.2.2.2.2.2.2.2.2.2.2.2.2.2.2.2.2.2.2.2.2.2.2))⟩ (fun hHeld => ?_)
     clear hK K
     refine pure_ (i := 14) (N := some 9) (v := ?_) (a' := ?_) #[true, true, true, true, true, true, true, true, true, true, true, true, true, true, true] rfl rfl (any_of HT_.out (by kernel_rfl)) (fun _ _ _ h => h) (Or.inl ⟨by rfl, ?_⟩) ?_ ?_
     rotate_left
     ·
      intro w'
      go_simp
      with_reducible rfl
     rotate_left
     ·
      simp only [Act.put, List.setIfInBounds_toArray, List.set_cons_zero, List.set_cons_succ, i64_w, i32_w]
      rfl
     refine done_ (done_of HT_.out (by kernel_rfl)) ?_
     have H := HX_.out
     clear HX_
     by_cases c14 : ((rd_T81 ((rd_T79 l0_6 a1).f5) x6_2).f2) = 2
     rotate_left
     ·
      rw [if_neg c14] at H
      have c14b0 : (((rd_T81 ((rd_T79 l0_6 a1).f5) x6_2).f2) == 2) = false := beq_eq_false_iff_ne.mpr c14
      have c14b1 : (((rd_T81 ((rd_T79 l0_6 a1).f5) x6_2).f2) != 2) = true := bne_iff_ne.mpr c14
      have H' := Aside0.mk H
      clear H
      have hnb68 := NB148_156.out
      have hnc68 := NB156_148.out
      obtain ⟨hcz69_0, hcz69_1, hcz69_2, hcz69_3, hcz69_4, hcz69_5, hcz69_6, hcz69_7⟩ := xbk8 BK148.out
      obtain ⟨hfz69_0, hfz69_1, hfz69_2, hfz69_3, hfz69_4, hfz69_5, hfz69_6, hfz69_7⟩ := xbf8 BK148.out
      try go_wp2
      go_roundg k2
      case measure => have := HJ2.out; have := HK2.out; omega
      case rel => exact ⟨(x5_2), (wrap64 (x6_2 + 1)), (by first | rfl | (simp; done) | (simp [*]; done)), (by first | rfl | (simp; done) | (simp [*]; done)), H', ⟨by have := HJ2.out; have := HK2.out; omega⟩, ⟨by (with_reducible repeat (first | refine blk_far ?_ NB143_156.out _ | refine blk_drewN ?_ _ | refine blk_drew ?_ | refine blk_alloc ?_ _)); (with_reducible repeat (first | refine blk_drewN ?_ _ | refine blk_drew ?_ | refine blk_alloc ?_ _)); exact BK143.out⟩, ⟨by repeat (first | (with_reducible first | exact HB.out | apply below_alloc | apply pw_below_drewN | apply below_drew1 | refine below_set ?_ GE143.out | refine below_set ?_ GE148.out | refine below_set ?_ GE156.out) | exact HB.out)⟩⟩
     rw [if_pos c14] at H
     have c14b0 : (((rd_T81 ((rd_T79 l0_6 a1).f5) x6_2).f2) == 2) = true := beq_iff_eq.mpr c14
     have c14b1 : (((rd_T81 ((rd_T79 l0_6 a1).f5) x6_2).f2) != 2) = false := bne_eq_false_iff_eq.mpr c14
     clear c14
     by_cases c15 : (wrap64 (a0_0 - ((rd_T81 ((rd_T79 l0_6 a1).f5) x6_2).f4))) > t153
     rotate_left
     ·
      rw [if_neg c15] at H
      have c15b0 : decide (t153 < (wrap64 (a0_0 - ((rd_T81 ((rd_T79 l0_6 a1).f5) x6_2).f4)))) = false := decide_eq_false c15
      clear c15
      have H' := Aside0.mk H
      clear H
      have hnb49 := NB148_156.out
      have hnc49 := NB156_148.out
      obtain ⟨hcz50_0, hcz50_1, hcz50_2, hcz50_3, hcz50_4, hcz50_5, hcz50_6, hcz50_7⟩ := xbk8 BK148.out
      obtain ⟨hfz50_0, hfz50_1, hfz50_2, hfz50_3, hfz50_4, hfz50_5, hfz50_6, hfz50_7⟩ := xbf8 BK148.out
      have hnb51 := NB143_156.out
      have hnc51 := NB156_143.out
      obtain ⟨hcz52_0, hcz52_1, hcz52_2, hcz52_3, hcz52_4, hcz52_5, hcz52_6, hcz52_7, hcz52_8, hcz52_9, hcz52_10⟩ := xbk11 BK143.out
      obtain ⟨hfz52_0, hfz52_1, hfz52_2, hfz52_3, hfz52_4, hfz52_5, hfz52_6, hfz52_7, hfz52_8, hfz52_9, hfz52_10⟩ := xbf11 BK143.out
      obtain ⟨hcz53_0, hcz53_1, hcz53_2, hcz53_3, hcz53_4⟩ := xbk5 BK156.out
      obtain ⟨hfz53_0, hfz53_1, hfz53_2, hfz53_3, hfz53_4⟩ := xbf5 BK156.out
      try go_wp2
      go_roundg k2
      case measure => have := HJ2.out; have := HK2.out; omega
      case rel => exact ⟨(x5_2), (wrap64 (x6_2 + 1)), (by first | rfl | (simp; done) | (simp [*]; done)), (by first | rfl | (simp; done) | (simp [*]; done)), H', ⟨by have := HJ2.out; have := HK2.out; omega⟩, ⟨by (with_reducible repeat (first | refine blk_far ?_ NB143_156.out _ | refine blk_drewN ?_ _ | refine blk_drew ?_ | refine blk_alloc ?_ _)); (with_reducible repeat (first | refine blk_drewN ?_ _ | refine blk_drew ?_ | refine blk_alloc ?_ _)); exact BK143.out⟩, ⟨by repeat (first | (with_reducible first | exact HB.out | apply below_alloc | apply pw_below_drewN | apply below_drew1 | refine below_set ?_ GE143.out | refine below_set ?_ GE148.out | refine below_set ?_ GE156.out) | exact HB.out)⟩⟩
     rw [if_pos c15] at H
     have c15b0 : decide (t153 < (wrap64 (a0_0 - ((rd_T81 ((rd_T79 l0_6 a1).f5) x6_2).f4)))) = true := decide_eq_true c15
     clear c15
     have H' := Aside0.mk H
     clear H
     have hnb30 := NB148_156.out
     have hnc30 := NB156_148.out
     obtain ⟨hcz31_0, hcz31_1, hcz31_2, hcz31_3, hcz31_4, hcz31_5, hcz31_6, hcz31_7⟩ := xbk8 BK148.out
     obtain ⟨hfz31_0, hfz31_1, hfz31_2, hfz31_3, hfz31_4, hfz31_5, hfz31_6, hfz31_7⟩ := xbf8 BK148.out
     have hnb32 := NB143_156.out
     have hnc32 := NB156_143.out
     obtain ⟨hcz33_0, hcz33_1, hcz33_2, hcz33_3, hcz33_4, hcz33_5, hcz33_6, hcz33_7, hcz33_8, hcz33_9, hcz33_10⟩ := xbk11 BK143.out
     obtain ⟨hfz33_0, hfz33_1, hfz33_2, hfz33_3, hfz33_4, hfz33_5, hfz33_6, hfz33_7, hfz33_8, hfz33_9, hfz33_10⟩ := xbf11 BK143.out
     obtain ⟨hcz34_0, hcz34_1, hcz34_2, hcz34_3, hcz34_4⟩ := xbk5 BK156.out
     obtain ⟨hfz34_0, hfz34_1, hfz34_2, hfz34_3, hfz34_4⟩ := xbf5 BK156.out
     try go_wp2
     go_roundg k2
     case measure => have := HJ2.out; have := HK2.out; omega
     case rel => exact ⟨(wrap64 (x5_2 + 1)), (wrap64 (x6_2 + 1)), (by first | rfl | (simp; done) | (simp [*]; done)), (by first | rfl | (simp; done) | (simp [*]; done)), H', ⟨by have := HJ2.out; have := HK2.out; omega⟩, ⟨by (with_reducible repeat (first | refine blk_far ?_ NB143_156.out _ | refine blk_drewN ?_ _ | refine blk_drew ?_ | refine blk_alloc ?_ _)); (with_reducible repeat (first | refine blk_drewN ?_ _ | refine blk_drew ?_ | refine blk_alloc ?_ _)); exact BK143.out⟩, ⟨by repeat (first | (with_reducible first | exact HB.out | apply below_alloc | apply pw_below_drewN | apply below_drew1 | refine below_set ?_ GE143.out | refine below_set ?_ GE148.out | refine below_set ?_ GE156.out) | exact HB.out)⟩⟩

/-! ### laws_toNote: function 31 -/
def laws_toNote.f (a0_0 : Int) (a0_1 : Int) (a0_2 : Int) (a0_3 : Int) (a0_4 : Int) (a0_5 : Int) (a0_6 : Int) (a0_7 : Int) (a0_8 : Int) : Option (Int × Int × Int × Int × Int × Int × Int × Int × Int) := some (a0_0, a0_1, a0_2, a0_3, a0_4, a0_5, a0_6, a0_7, a0_8)
set_option maxHeartbeats 8000000 in
set_option maxRecDepth 100000 in
theorem laws_toNote.calls (a0_0 : Int) (a0_1 : Int) (a0_2 : Int) (a0_3 : Int) (a0_4 : Int) (a0_5 : Int) (a0_6 : Int) (a0_7 : Int) (a0_8 : Int) (r1 : Int) (r2 : Int) (r3 : Int) (r4 : Int) (r5 : Int) (r6 : Int) (r7 : Int) (r8 : Int) (r9 : Int) (w : World) (h : laws_toNote.f a0_0 a0_1 a0_2 a0_3 a0_4 a0_5 a0_6 a0_7 a0_8 = some (r1, r2, r3, r4, r5, r6, r7, r8, r9)) :
  Calls Try.prog 31 #[.agg #[.int .i64 a0_0, .int .i64 a0_1, .int .i64 a0_2, .int .i64 a0_3, .int .i64 a0_4, .int .i64 a0_5, .int .i64 a0_6, .int .i64 a0_7, .int .i64 a0_8]] w fun e w' => e = .returned (.agg #[.int .i64 r1, .int .i64 r2, .int .i64 r3, .int .i64 r4, .int .i64 r5, .int .i64 r6, .int .i64 r7, .int .i64 r8, .int .i64 r9]) ∧ Below w.heap.size w w' := by
 have hu65 := Try.underlying65
 have hu63 := Try.underlying63
 have HB := Aside0.mk (Below.refl w.heap.size w)
 have H : (some (a0_0, a0_1, a0_2, a0_3, a0_4, a0_5, a0_6, a0_7, a0_8)) = some (r1, r2, r3, r4, r5, r6, r7, r8, r9) := h
 clear h
 simp only [Option.some.injEq, Prod.mk.injEq] at H
 obtain ⟨rfl, rfl, rfl, rfl, rfl, rfl, rfl, rfl, rfl⟩ := H
 go_enter Try.func31, Try.ntmps31
 go_wp2_with (first | ((with_reducible refine gate_dst (N := 1) rfl ?_); refine box_event ?hg (N := 1) ?hd (cs := #[.int .i64 a0_0, .int .i64 a0_1, .int .i64 a0_2, .int .i64 a0_3, .int .i64 a0_4, .int .i64 a0_5, .int .i64 a0_6, .int .i64 a0_7, .int .i64 a0_8]) (t := 65) ?hr ?_; (case hd => rfl); (case hg => rfl); (case hr => first | (go_simp; done) | (go_simp; rfl)); intro gb157 hg w2 hbox hb; have q_ := xq hb (xb HB.out); have n0_ := Aside0.mk (below_step q_ hb); have n1_ := Aside0.mk (hbox); have n2_ := Aside0.mk ((by rw [hg]; exact (below_size q_) : w.heap.size ≤ gb157)); have n3_ := Aside0.mk ((by rw [hg]; exact (below_size q_) : w.heap.size ≤ gb157)); clear HB; have HB := n0_; have BK157 := n1_; have GW157 := n2_; have GE157 := n3_; clear n0_ n1_ n2_ n3_; clear hb hbox hg) | ((with_reducible refine gate_dst (N := 2) rfl ?_); refine box_event ?hg (N := 2) ?hd (cs := #[.int .i64 0, .int .i64 0, .int .i64 0, .int .i64 0, .int .i64 0, .int .i64 0, .int .i64 0, .int .i64 0, .int .i64 0]) (t := 63) ?hr ?_; (case hd => rfl); (case hg => rfl); (case hr => first | (go_simp; done) | (go_simp; rfl)); intro gb158 hg w3 hbox hb; have q_ := xq hb (xb HB.out); have n0_ := Aside0.mk (blk_below (g := gb157) (xg BK157.out) hb); have n1_ := Aside0.mk (below_step q_ hb); have n2_ := Aside0.mk (hbox); have n3_ := Aside0.mk ((by rw [hg]; exact (below_size q_) : w.heap.size ≤ gb158)); have n4_ := Aside0.mk ((by rw [hg]; exact (below_size q_) : w.heap.size ≤ gb158)); have n5_ := Aside0.mk (xlt (g := gb157) hg (xg BK157.out)); have n6_ := Aside0.mk n5_.out.symm; clear BK157; clear HB; have BK157 := n0_; have HB := n1_; have BK158 := n2_; have GW158 := n3_; have GE158 := n4_; have NB157_158 := n5_; have NB158_157 := n6_; clear n0_ n1_ n2_ n3_ n4_ n5_ n6_; clear hb hbox hg) | ((with_reducible refine gate_dst (N := 3) rfl ?_); refine box_event ?hg (N := 3) ?hd (cs := #[.int .i64 0, .int .i64 0, .int .i64 0, .int .i64 0, .int .i64 0, .int .i64 0, .int .i64 0, .int .i64 0, .int .i64 0]) (t := 63) ?hr ?_; (case hd => rfl); (case hg => rfl); (case hr => first | (go_simp; done) | (go_simp; rfl)); intro gb159 hg w4 hbox hb; have q_ := xq hb (xb HB.out); have n0_ := Aside0.mk (blk_below (g := gb157) (xg BK157.out) hb); have n1_ := Aside0.mk (blk_below (g := gb158) (xg BK158.out) hb); have n2_ := Aside0.mk (below_step q_ hb); have n3_ := Aside0.mk (hbox); have n4_ := Aside0.mk ((by rw [hg]; exact (below_size q_) : w.heap.size ≤ gb159)); have n5_ := Aside0.mk ((by rw [hg]; exact (below_size q_) : w.heap.size ≤ gb159)); have n6_ := Aside0.mk (xlt (g := gb157) hg (xg BK157.out)); have n7_ := Aside0.mk n6_.out.symm; have n8_ := Aside0.mk (xlt (g := gb158) hg (xg BK158.out)); have n9_ := Aside0.mk n8_.out.symm; clear BK157; clear BK158; clear HB; have BK157 := n0_; have BK158 := n1_; have HB := n2_; have BK159 := n3_; have GW159 := n4_; have GE159 := n5_; have NB157_159 := n6_; have NB159_157 := n7_; have NB158_159 := n8_; have NB159_158 := n9_; clear n0_ n1_ n2_ n3_ n4_ n5_ n6_ n7_ n8_ n9_; clear hb hbox hg; have hnb5 := NB157_158.out; have hnc5 := NB158_157.out; have hnb6 := NB157_159.out; have hnc6 := NB159_157.out; obtain ⟨hcz7_0, hcz7_1, hcz7_2, hcz7_3, hcz7_4, hcz7_5, hcz7_6, hcz7_7, hcz7_8⟩ := xbk9 BK157.out; obtain ⟨hfz7_0, hfz7_1, hfz7_2, hfz7_3, hfz7_4, hfz7_5, hfz7_6, hfz7_7, hfz7_8⟩ := xbf9 BK157.out; have hnb8 := NB159_158.out; have hnc8 := NB158_159.out; obtain ⟨hcz9_0, hcz9_1, hcz9_2, hcz9_3, hcz9_4, hcz9_5, hcz9_6, hcz9_7, hcz9_8⟩ := xbk9 BK159.out; obtain ⟨hfz9_0, hfz9_1, hfz9_2, hfz9_3, hfz9_4, hfz9_5, hfz9_6, hfz9_7, hfz9_8⟩ := xbf9 BK159.out; obtain ⟨hcz10_0, hcz10_1, hcz10_2, hcz10_3, hcz10_4, hcz10_5, hcz10_6, hcz10_7, hcz10_8⟩ := xbk9 BK158.out; obtain ⟨hfz10_0, hfz10_1, hfz10_2, hfz10_3, hfz10_4, hfz10_5, hfz10_6, hfz10_7, hfz10_8⟩ := xbf9 BK158.out))
 refine bodyPost_ret (results_cell_row rfl _ _ gb158 63 #[.int .i64 a0_0, .int .i64 a0_1, .int .i64 a0_2, .int .i64 a0_3, .int .i64 a0_4, .int .i64 a0_5, .int .i64 a0_6, .int .i64 a0_7, .int .i64 a0_8] (0, 0) _ rfl (by (refine xput9 (cs := ?cs1) ?h1 ?e1; (case h1 => ((with_reducible repeat (first | refine blk_far ?_ NB158_159.out _ | refine blk_drewN ?_ _ | refine blk_drew ?_ | refine blk_alloc ?_ _)); (with_reducible repeat (first | refine blk_drewN ?_ _ | refine blk_drew ?_ | refine blk_alloc ?_ _)); exact BK158.out)); simp only [List.setIfInBounds_toArray, List.set_cons_zero, List.set_cons_succ])) Try.underlying63 rfl (by kernel_rfl)) rfl ?_
 exact ⟨by first | rfl | (simp [errW_none, errW_some] <;> rfl) | (simp [*, errW_none, errW_some] <;> rfl), by repeat (first | (with_reducible first | exact HB.out | apply below_alloc | apply pw_below_drewN | apply below_drew1 | refine below_set ?_ GE157.out | refine below_set ?_ GE158.out | refine below_set ?_ GE159.out) | exact HB.out)⟩

end Go.Proofs.Ytgcelhejmpcchaa.PFnExactLateOf
