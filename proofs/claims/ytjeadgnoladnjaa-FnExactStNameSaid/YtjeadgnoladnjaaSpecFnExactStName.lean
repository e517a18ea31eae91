/-  The one pure statement of FnExactStName, and the openers of what comes in.  Written by mkrow.py. -/
import Derived.Test.YtjeadgnoladnjaaHFnExactStName
import Derived.Test.YtjeadgnoladnjaaOpens
import Derived.KernelRfl
namespace Go.Proofs.Ytjeadgnoladnjaa.SFnExactStName
open Go.RowKit Go.Proofs.YtjeadgnoladnjaaW.PrintWords Go.Proofs.YtjeadgnoladnjaaW.PrintLast Go.Proofs.YtjeadgnoladnjaaW.PrintMore Go.Proofs.Ytjeadgnoladnjaa.PFnExactStName Go.Proofs.Ytjeadgnoladnjaa.Opn
set_option linter.unusedVariables false


def Pure : Prop := ∀ (x0 : Int), ((Lit.int .i64 x0).wf = true) → laws_FnExactStName.f x0 = some true

end Go.Proofs.Ytjeadgnoladnjaa.SFnExactStName
