/-  The one pure statement of FnExactTold, and the openers of what comes in.  Written by mkrow.py. -/
import Derived.Test.YtjeadgnoladnjaaPFnExactToldx2
import Derived.Test.YtjeadgnoladnjaaOpens
import Derived.KernelRfl
namespace Go.Proofs.Ytjeadgnoladnjaa.SFnExactTold
open Go.RowKit Go.Proofs.YtjeadgnoladnjaaW.PrintWords Go.Proofs.YtjeadgnoladnjaaW.PrintLast Go.Proofs.YtjeadgnoladnjaaW.PrintMore Go.Proofs.Ytjeadgnoladnjaa.PFnExactTold Go.Proofs.Ytjeadgnoladnjaa.Opn
set_option linter.unusedVariables false

instance i57 : Inhabited S57 := ⟨z57⟩
def b57 (x : S57) : Prop := ((Lit.int .i64 x.f0).wf = true) ∧ ((Lit.int .i64 x.f1).wf = true) ∧ ((Lit.int .i64 x.f2).wf = true) ∧ ((Lit.int .i64 x.f3).wf = true) ∧ ((Lit.int .i64 x.f4).wf = true) ∧ ((Lit.int .i64 x.f5).wf = true) ∧ ((Lit.int .i64 x.f6).wf = true) ∧ ((Lit.int .i64 x.f7).wf = true) ∧ ((Lit.int .i64 x.f8).wf = true)
theorem o57 : Opens Try.prog 57 k57 b57 := opens_iso (fun a => (⟨a.1, a.2.1, a.2.2.1, a.2.2.2.1, a.2.2.2.2.1, a.2.2.2.2.2.1, a.2.2.2.2.2.2.1, a.2.2.2.2.2.2.2.1, a.2.2.2.2.2.2.2.2⟩ : S57)) (fun _ => rfl) (opens_struct Try.underlying57 (by kernel_rfl) (opensAt_cons rfl rfl (opens_int Try.underlying3 (by kernel_rfl)) (opensAt_cons rfl rfl (opens_int Try.underlying3 (by kernel_rfl)) (opensAt_cons rfl rfl (opens_int Try.underlying3 (by kernel_rfl)) (opensAt_cons rfl rfl (opens_int Try.underlying3 (by kernel_rfl)) (opensAt_cons rfl rfl (opens_int Try.underlying3 (by kernel_rfl)) (opensAt_cons rfl rfl (opens_int Try.underlying3 (by kernel_rfl)) (opensAt_cons rfl rfl (opens_int Try.underlying3 (by kernel_rfl)) (opensAt_cons rfl rfl (opens_int Try.underlying3 (by kernel_rfl)) (opensAt_one rfl (opens_int Try.underlying3 (by kernel_rfl))))))))))))

def Pure : Prop := ∀ (x0 : (List S57)), (x0.length * 72 ≤ 140737488351232 ∧ x0.length ≤ maxLen ∧ ∀ y ∈ x0, b57 y) → ∃ k, laws_FnExactTold.f k x0 = some true

end Go.Proofs.Ytjeadgnoladnjaa.SFnExactTold
