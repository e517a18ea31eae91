/-  The one pure statement of FnExactAsked, and the openers of what comes in.  Written by mkrow.py. -/
import Derived.Test.YtjeadgnoladnjaaPFnExactAskedx3
import Derived.Test.YtjeadgnoladnjaaOpens
import Derived.KernelRfl
namespace Go.Proofs.Ytjeadgnoladnjaa.SFnExactAsked
open Go.RowKit Go.Proofs.YtjeadgnoladnjaaW.PrintWords Go.Proofs.YtjeadgnoladnjaaW.PrintLast Go.Proofs.YtjeadgnoladnjaaW.PrintMore Go.Proofs.Ytjeadgnoladnjaa.PFnExactAsked Go.Proofs.Ytjeadgnoladnjaa.Opn
set_option linter.unusedVariables false

instance i50 : Inhabited S50 := ⟨z50⟩
def b50 (x : S50) : Prop := ((Lit.int .i64 x.f0).wf = true) ∧ (x.f1.size ≤ 140737488351232) ∧ ((Lit.int .i64 x.f2).wf = true)
theorem o50 : Opens Try.prog 50 k50 b50 := opens_iso (fun a => (⟨a.1, a.2.1, a.2.2⟩ : S50)) (fun _ => rfl) (opens_struct Try.underlying50 (by kernel_rfl) (opensAt_cons rfl rfl (opens_int Try.underlying3 (by kernel_rfl)) (opensAt_cons rfl rfl (opens_string Try.underlying9 (by kernel_rfl)) (opensAt_one rfl (opens_int Try.underlying3 (by kernel_rfl))))))

def Pure : Prop := ∀ (x0 : (List S50)), (x0.length * 32 ≤ 140737488351232 ∧ x0.length ≤ maxLen ∧ ∀ y ∈ x0, b50 y) → ∃ k, laws_FnExactAsked.f k x0 = some true

end Go.Proofs.Ytjeadgnoladnjaa.SFnExactAsked
