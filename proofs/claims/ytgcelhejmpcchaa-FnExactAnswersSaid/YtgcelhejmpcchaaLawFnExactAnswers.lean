/-  The row of FnExactAnswers, out of its pure statement and the printed walk.  Written by mkrow.py. -/
import Derived.Test.YtgcelhejmpcchaaRows
import Derived.Test.YtgcelhejmpcchaaSpecFnExactAnswers
import Derived.Test.YtgcelhejmpcchaaPureFnExactAnswers
import Derived.WalkKit
import Derived.ProofKit
import Derived.OpenShut
import Derived.ShutString
import Derived.ChangeOld
import Derived.Below
import Derived.SizedLaws
namespace Go.Proofs.Ytgcelhejmpcchaa.fnExactAnswers
open Go.ChangeShapes Go.WideShapes Go.ChangeAt Go.RowKit Go.Proofs.Ytgcelhejmpcchaa.Opn Go.Proofs.Ytgcelhejmpcchaa.SFnExactAnswers Go.Proofs.YtgcelhejmpcchaaW.PrintWords Go.Proofs.Ytgcelhejmpcchaa.PFnExactAnswers
set_option linter.unusedVariables false
theorem own : ownKnob Try.prog.godebug = none := by kernel_rfl
theorem laidOut : laidOutB Try.prog = true := by kernel_rfl
set_option maxRecDepth 100000 in
theorem lifted (os : Os) (started : os.Started) (H : Type) (enc : TypeId × Value → H) :
    ReturnsInHanded {} Try.checked os 3 .any (Rows.fnExactAnswersSpec.pre6 enc Try.prog Try.f3 Rows.fnExactAnswersRow.domain false) (Rows.fnExactAnswersSpec.post enc Try.prog Try.f3 false true false false) := by
  refine returnsInHanded_of_change_sized (C := Try.checked) own started (by kernel_rfl) Try.func3
    (ChangeSpec.witness6 (enc := enc) (C := Try.checked) false ⟨#[], #[.slice none 0 0], []⟩ 8 (by kernel_rfl) (by kernel_rfl) (by kernel_rfl) (by kernel_rfl)) ?_
  intro W base args ds gs before hval0 hW hcnd hsz0 _
  have hsz : (DataW.weightsEach Try.prog (Try.f3.params.toList ++ Rows.fnExactAnswersSpec.plain.varTypes Try.prog) (ds ++ gs)).all (· ≤ reachBytes) = true := hsz0
  have hval : ∀ (j : Nat) t v, Try.f3.params[j]? = some t → args[j]? = some v → Value.okWide Try.prog W .any base t v := hval0
  have hW' := hW
  obtain ⟨p, q, hA0, hV, rfl, hfz, hnd⟩ := hW
  have hA : DataW.TrodAll enc Try.prog W 0 (fun _ => true) true Try.f3.params.toList args.toList ds p := hA0
  rw [Try.params3] at hA hval hsz
  obtain ⟨v0, vs0, d0, ds0, p0, q0, hargs, rfl, rfl, h0, r0⟩ := trodAll_cons hA
  obtain ⟨rfl, rfl, rfl⟩ := trodAll_nil r0
  obtain rfl : args = #[v0] := by cases args; simp_all
  obtain ⟨rfl, rfl⟩ := trodVars_none hV
  have k0 := h0
  have lt0 : ∀ x ∈ p0, x.block < W.heap.size := by obtain ⟨m, hm⟩ := k0; exact DataW.trod_lt m _ _ _ hm
  obtain ⟨x0, K0, B0⟩ : ∃ a : (List S65), ((Kd.slice 65 k65)).K W a v0.cells.toList ∧ (a.length * 72 ≤ 140737488351232 ∧ a.length ≤ maxLen ∧ ∀ y ∈ a, b65 y) := by
    obtain ⟨fuel, hf⟩ := h0
    exact (show Opens Try.prog 22 (Kd.slice 65 k65) (fun a => a.length * 72 ≤ 140737488351232 ∧ a.length ≤ maxLen ∧ ∀ y ∈ a, b65 y) from (opens_slice (q := 65) (by_ := 72) Try.underlying22 (by kernel_rfl) (by kernel_rfl) o65)).2 H enc W _ _ _ fuel _ _ hf (fun m hm => by have := List.all_eq_true.1 hsz _ (DataW.weights_mem_each (j := 0) (t := 22) rfl rfl m hm); simpa using this)
  obtain ⟨A0, len0, c0, rfl⟩ := okWide_slice Try.underlying22 (hval 0 22 v0 rfl rfl)
  obtain ⟨A0_, c0_, e0, hc0, hr0⟩ := K0
  obtain ⟨rfl, rfl, rfl⟩ : A0 = A0_ ∧ len0 = x0.length ∧ c0 = c0_ := by simpa [Value.cells] using e0
  clear hA0 hval0 hsz0 hsz
  obtain ⟨k, h⟩ := Pure.FnExactAnswers x0 B0
  refine (laws_FnExactAnswers.calls k _ _ x0 true W hr0 hc0 h).mono ?_
  rintro e W' ⟨rfl, hd⟩
  have bel : Below W.heap.size W W' := by first | exact hd | exact hd.below
  exact ⟨_, rfl, _, _, _, [], _, [], hW', trodAll_mk1 (shut_bool Try.underlying4 _), (trodAll_cons_mk (Below.trod laidOut (by kernel_rfl) (of_decide_eq_true (by kernel_rfl)) k0 bel lt0) trodAll_mk0), rfl, bel.frame _, fun h => by cases h⟩
theorem over : Rows.fnExactAnswersRow.holds Try.pinned (OpenSpec.ofChange Rows.fnExactAnswersSpec) :=
  OpenClaim.holds_of_wide 3 Try.f3 rfl rfl rfl rfl rfl rfl rfl ⟨rfl, rfl, rfl, rfl, rfl⟩ rfl rfl rfl rfl rfl (by kernel_rfl) Try.func3 (by kernel_rfl)
    (of_decide_eq_true (by kernel_rfl)) (by unfold Func.isWrapper; first | (rw [if_pos (by decide +kernel)]; kernel_rfl) | (rw [if_neg (by decide +kernel)]; exact ⟨rfl, rfl⟩))
    (fun os started H enc _ => lifted os started H enc)
theorem proved : Rows.FnExactAnswersSaid := over
#print axioms proved
end Go.Proofs.Ytgcelhejmpcchaa.fnExactAnswers
namespace Go.Proofs.Ytgcelhejmpcchaa
/-- The row, under a short name, for the claim. -/
theorem fnExactAnswers_holds : Rows.FnExactAnswersSaid := fnExactAnswers.proved
end Go.Proofs.Ytgcelhejmpcchaa
