/-  The one pure statement of FnExactAnswers, and the openers of what comes in.  Written by mkrow.py. -/
import Derived.Test.YtgcelhejmpcchaaPFnExactAnswersx3
import Derived.Test.YtgcelhejmpcchaaOpens
import Derived.KernelRfl
namespace Go.Proofs.Ytgcelhejmpcchaa.SFnExactAnswers
open Go.RowKit Go.Proofs.YtgcelhejmpcchaaW.PrintWords Go.Proofs.YtgcelhejmpcchaaW.PrintLast Go.Proofs.YtgcelhejmpcchaaW.PrintMore Go.Proofs.Ytgcelhejmpcchaa.PFnExactAnswers Go.Proofs.Ytgcelhejmpcchaa.Opn
set_option linter.unusedVariables false

instance i65 : Inhabited S65 := ⟨z65⟩
def b65 (x : S65) : Prop := ((Lit.int .i64 x.f0).wf = true) ∧ ((Lit.int .i64 x.f1).wf = true) ∧ ((Lit.int .i64 x.f2).wf = true) ∧ ((Lit.int .i64 x.f3).wf = true) ∧ ((Lit.int .i64 x.f4).wf = true) ∧ ((Lit.int .i64 x.f5).wf = true) ∧ ((Lit.int .i64 x.f6).wf = true) ∧ ((Lit.int .i64 x.f7).wf = true) ∧ ((Lit.int .i64 x.f8).wf = true)
theorem o65 : Opens Try.prog 65 k65 b65 := opens_iso (fun a => (⟨a.1, a.2.1, a.2.2.1, a.2.2.2.1, a.2.2.2.2.1, a.2.2.2.2.2.1, a.2.2.2.2.2.2.1, a.2.2.2.2.2.2.2.1, a.2.2.2.2.2.2.2.2⟩ : S65)) (fun _ => rfl) (opens_struct Try.underlying65 (by kernel_rfl) (opensAt_cons rfl rfl (opens_int Try.underlying3 (by kernel_rfl)) (opensAt_cons rfl rfl (opens_int Try.underlying3 (by kernel_rfl)) (opensAt_cons rfl rfl (opens_int Try.underlying3 (by kernel_rfl)) (opensAt_cons rfl rfl (opens_int Try.underlying3 (by kernel_rfl)) (opensAt_cons rfl rfl (opens_int Try.underlying3 (by kernel_rfl)) (opensAt_cons rfl rfl (opens_int Try.underlying3 (by kernel_rfl)) (opensAt_cons rfl rfl (opens_int Try.underlying3 (by kernel_rfl)) (opensAt_cons rfl rfl (opens_int Try.underlying3 (by kernel_rfl)) (opensAt_one rfl (opens_int Try.underlying3 (by kernel_rfl))))))))))))

def Pure : Prop := ∀ (x0 : (List S65)), (x0.length * 72 ≤ 140737488351232 ∧ x0.length ≤ maxLen ∧ ∀ y ∈ x0, b65 y) → ∃ k, laws_FnExactAnswers.f k x0 = some true

end Go.Proofs.Ytgcelhejmpcchaa.SFnExactAnswers
