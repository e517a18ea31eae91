/-  The row of FnExactLateOf, out of its pure statement and the printed walk.  Written by mkrow.py. -/
import Derived.Test.YtgcelhejmpcchaaRows
import Derived.Test.YtgcelhejmpcchaaSpecFnExactLateOf
import Derived.Test.YtgcelhejmpcchaaPureFnExactLateOf
import Derived.WalkKit
import Derived.ProofKit
import Derived.OpenShut
import Derived.ShutString
import Derived.ChangeOld
import Derived.Below
import Derived.SizedLaws
namespace Go.Proofs.Ytgcelhejmpcchaa.fnExactLateOf
open Go.ChangeShapes Go.WideShapes Go.ChangeAt Go.RowKit Go.Proofs.Ytgcelhejmpcchaa.Opn Go.Proofs.Ytgcelhejmpcchaa.SFnExactLateOf Go.Proofs.YtgcelhejmpcchaaW.PrintWords Go.Proofs.Ytgcelhejmpcchaa.PFnExactLateOf
set_option linter.unusedVariables false
theorem own : ownKnob Try.prog.godebug = none := by kernel_rfl
theorem laidOut : laidOutB Try.prog = true := by kernel_rfl
set_option maxRecDepth 100000 in
theorem lifted (os : Os) (started : os.Started) (H : Type) (enc : TypeId × Value → H) :
    ReturnsInHanded {} Try.checked os 4 .any (Rows.fnExactLateOfSpec.pre6 enc Try.prog Try.f4 Rows.fnExactLateOfRow.domain false) (Rows.fnExactLateOfSpec.post enc Try.prog Try.f4 false true false false) := by
  refine returnsInHanded_of_change_sized (C := Try.checked) own started (by kernel_rfl) Try.func4
    (ChangeSpec.witness6 (enc := enc) (C := Try.checked) false ⟨#[], #[.agg #[.int .i64 0, .slice none 0 0, .slice none 0 0, .int .i64 0, .bool false, .slice none 0 0, .slice none 0 0, .slice none 0 0, .slice none 0 0, .int .i64 0, .int .i64 0], .int .i64 0], []⟩ 8 (by kernel_rfl) (by kernel_rfl) (by kernel_rfl) (by kernel_rfl)) ?_
  intro W base args ds gs before hval0 hW hcnd hsz0 _
  have hsz : (DataW.weightsEach Try.prog (Try.f4.params.toList ++ Rows.fnExactLateOfSpec.plain.varTypes Try.prog) (ds ++ gs)).all (· ≤ reachBytes) = true := hsz0
  have hval : ∀ (j : Nat) t v, Try.f4.params[j]? = some t → args[j]? = some v → Value.okWide Try.prog W .any base t v := hval0
  have hW' := hW
  obtain ⟨p, q, hA0, hV, rfl, hfz, hnd⟩ := hW
  have hA : DataW.TrodAll enc Try.prog W 0 (fun _ => true) true Try.f4.params.toList args.toList ds p := hA0
  rw [Try.params4] at hA hval hsz
  obtain ⟨v0, vs0, d0, ds0, p0, q0, hargs, rfl, rfl, h0, r0⟩ := trodAll_cons hA
  obtain ⟨v1, vs1, d1, ds1, p1, q1, rfl, rfl, rfl, h1, r1⟩ := trodAll_cons r0
  obtain ⟨rfl, rfl, rfl⟩ := trodAll_nil r1
  obtain rfl : args = #[v0, v1] := by cases args; simp_all
  obtain ⟨rfl, rfl⟩ := trodVars_none hV
  have k0 := h0
  have lt0 : ∀ x ∈ p0, x.block < W.heap.size := by obtain ⟨m, hm⟩ := k0; exact DataW.trod_lt m _ _ _ hm
  obtain ⟨x0, K0, B0⟩ : ∃ a : S37, (k37).K W a v0.cells.toList ∧ (b37 a) := by
    obtain ⟨fuel, hf⟩ := h0
    exact (show Opens Try.prog 37 k37 (fun a => b37 a) from o37).2 H enc W _ _ _ fuel _ _ hf (fun m hm => by have := List.all_eq_true.1 hsz _ (DataW.weights_mem_each (j := 0) (t := 37) rfl rfl m hm); simpa using this)
  obtain ⟨⟨cs0⟩, rfl, _⟩ := okWide_struct Try.underlying37 (hval 0 37 v0 rfl rfl)
  obtain ⟨A0_1, c0_1, A0_2, c0_2, A0_5, c0_5, A0_6, c0_6, A0_7, c0_7, A0_8, c0_8, e0, hc0_1, hr0_1, hc0_2, hr0_2, hc0_5, hr0_5, hc0_6, hr0_6, hc0_7, hr0_7, hc0_8, hr0_8⟩ := k37_open K0
  obtain rfl : cs0 = _ := e0
  have k1 := h1
  have lt1 : ∀ x ∈ p1, x.block < W.heap.size := by obtain ⟨m, hm⟩ := k1; exact DataW.trod_lt m _ _ _ hm
  obtain ⟨x1, K1, B1⟩ : ∃ a : Int, ((Kd.int .i64)).K W a v1.cells.toList ∧ ((Lit.int .i64 a).wf = true) := by
    obtain ⟨fuel, hf⟩ := h1
    exact (show Opens Try.prog 3 (Kd.int .i64) (fun a => (Lit.int .i64 a).wf = true) from (opens_int Try.underlying3 (by kernel_rfl))).2 H enc W _ _ _ fuel _ _ hf (fun m hm => by have := List.all_eq_true.1 hsz _ (DataW.weights_mem_each (j := 1) (t := 3) rfl rfl m hm); simpa using this)
  obtain ⟨v1_, rfl⟩ := okWide_int Try.underlying3 (hval 1 3 v1 rfl rfl)
  obtain rfl : x1 = v1_ := (by have e : (Value.int .i64 v1_).cells.toList = [Value.int .i64 x1] := K1; simpa [Value.cells] using e : v1_ = x1).symm
  clear hA0 hval0 hsz0 hsz
  obtain ⟨k, h⟩ := Pure.FnExactLateOf x0 x1 B0 B1
  refine (laws_FnExactLateOf.calls k (x0.f0) _ _ (x0.f1.f0) _ _ (x0.f1.f1) (x0.f1.f2) (x0.f1.f3) _ _ (x0.f2) _ _ (x0.f3) _ _ (x0.f4) _ _ (x0.f5) (x0.f6) (x0.f7) x1 true W hr0_1 hc0_1 hr0_2 hc0_2 hr0_5 hc0_5 hr0_6 hc0_6 hr0_7 hc0_7 hr0_8 hc0_8 h).mono ?_
  rintro e W' ⟨rfl, hd⟩
  have bel : Below W.heap.size W W' := by first | exact hd | exact hd.below
  exact ⟨_, rfl, _, _, _, [], _, [], hW', trodAll_mk1 (shut_bool Try.underlying4 _), (trodAll_cons_mk (Below.trod laidOut (by kernel_rfl) (of_decide_eq_true (by kernel_rfl)) k0 bel lt0) (trodAll_cons_mk (Below.trod laidOut (by kernel_rfl) (of_decide_eq_true (by kernel_rfl)) k1 bel lt1) trodAll_mk0)), rfl, bel.frame _, fun h => by cases h⟩
theorem over : Rows.fnExactLateOfRow.holds Try.pinned (OpenSpec.ofChange Rows.fnExactLateOfSpec) :=
  OpenClaim.holds_of_wide 4 Try.f4 rfl rfl rfl rfl rfl rfl rfl ⟨rfl, rfl, rfl, rfl, rfl⟩ rfl rfl rfl rfl rfl (by kernel_rfl) Try.func4 (by kernel_rfl)
    (of_decide_eq_true (by kernel_rfl)) (by unfold Func.isWrapper; first | (rw [if_pos (by decide +kernel)]; kernel_rfl) | (rw [if_neg (by decide +kernel)]; exact ⟨rfl, rfl⟩))
    (fun os started H enc _ => lifted os started H enc)
theorem proved : Rows.FnExactLateOfSaid := over
#print axioms proved
end Go.Proofs.Ytgcelhejmpcchaa.fnExactLateOf
namespace Go.Proofs.Ytgcelhejmpcchaa
/-- The row, under a short name, for the claim. -/
theorem fnExactLateOf_holds : Rows.FnExactLateOfSaid := fnExactLateOf.proved
end Go.Proofs.Ytgcelhejmpcchaa
