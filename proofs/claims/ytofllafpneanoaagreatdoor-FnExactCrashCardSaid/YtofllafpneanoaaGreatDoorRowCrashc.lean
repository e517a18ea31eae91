/- RowCrashc. -/
import Derived.Test.YtofllafpneanoaaGreatDoorRows
import Derived.ProofKit
import Derived.Stop.Joined
import Derived.KernelRfl
set_option linter.unusedVariables false
set_option linter.unusedSimpArgs false
namespace Go.Proofs.YtofllafpneanoaaGreatDoor.fnExactCrash
set_option maxRecDepth 100000
noncomputable abbrev P:Program:=Tryz.pinned.checked.prog
noncomputable abbrev c:OpenClaim:=Rows.fnExactCrashRow
noncomputable abbrev s:ChangeSpec:=Rows.fnExactCrashSpec
noncomputable abbrev fn:Func:=Tryz.f3
theorem k1:c.wf (OpenSpec.ofChange s) = true:=by kernel_rfl
theorem k2:laidOutB P = true:=by kernel_rfl
theorem k3:mapsRowed P = true:=by kernel_rfl
theorem k4:fn.params.all (P.readableRec ·) = true:=by kernel_rfl
theorem k5:namedTie P c.named s.vars = true:=by kernel_rfl
theorem k10:(c.inPlace == P.inPlace 3) = true:=by kernel_rfl
theorem k11:(c.unfollowed == P.unfollowed 3) = true:=by kernel_rfl
theorem k12:(c.recurses == P.recurses 3) = true:=by kernel_rfl
theorem k13:(c.named == P.varsNamed 3) = true:=by kernel_rfl
theorem k22:(c.plainKeys == P.plainKeys) = true:=by kernel_rfl
theorem k23b:P.stopsHeard = true:=by kernel_rfl
theorem k24:P.mayEnter = true:=by kernel_rfl
theorem k24b:(c.lifted == P.liftsFinal) = true:=by kernel_rfl
theorem k24c:(P.make == some c.make) = true:=by kernel_rfl
theorem k26:(c.pinned == c.pinnedBy) = true:=by kernel_rfl
theorem k28:c.veiledFits P fn.params.toList (fn.params.toList ++ s.plain.varTypes P ++ fn.resultTypes.toList) = true:=by kernel_rfl
theorem closed:joinedFacts P 3 fn s c = true:=by
 unfold joinedFacts
 rw [k1,k2,k3,k4,k5,k10,k11,k12,k13,k22,k23b,k24,k24b,k24c,k26,k28]
 kernel_rfl
end Go.Proofs.YtofllafpneanoaaGreatDoor.fnExactCrash
