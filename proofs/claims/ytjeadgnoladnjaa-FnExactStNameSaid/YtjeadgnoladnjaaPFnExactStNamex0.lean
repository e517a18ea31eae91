-- PRINTED BY print.sh 35421559b90ae4d0a3588c463048766b98c2df88dd9212a6774a882060cdf62d: not written by this session
import Derived.Test.YtjeadgnoladnjaaProg
import Derived.Below
import Derived.Deep.Draws
import Derived.Deep.AppendLies
import Derived.Maps.AppendAt
import Derived.OwnWalk
import Derived.Laws.BytesArg
import Derived.Laws.MakeOwn
import Derived.Laws.OwnMore
import Derived.Deep.OwnRows
import Derived.Tactics
import Derived.Lib.ConvBytes
import Derived.Laws.Slices
import Derived.WalkKit
import Derived.KernelRfl
import Derived.RowKit3
import Derived.Deep.LoopGhost
import Derived.Deep.QuietTactic
import Derived.BigQuiet
import Derived.WideLaws
import Derived.Deep.DeepCutAuto
import Derived.Deep.CutBlock
import Derived.Deep.RegionHeld3
import Derived.Laws.Rows
import Derived.Lib.AppendStr
import Derived.ArgAppend
import Derived.Laws.IdiomCopy
import Derived.OrdersHeld
import Derived.Laws.BitsLemmas
import Derived.RowKit
import Derived.Test.YtjeadgnoladnjaaWWords
import Derived.Test.YtjeadgnoladnjaaWLast
import Derived.Test.YtjeadgnoladnjaaWTab
import Derived.Test.YtjeadgnoladnjaaWFour
import Derived.Test.YtjeadgnoladnjaaWQPut
import Derived.Test.YtjeadgnoladnjaaWApart
import Derived.Test.YtjeadgnoladnjaaWArr
import Derived.Test.YtjeadgnoladnjaaWZeros
import Derived.Test.YtjeadgnoladnjaaWFoot
import Derived.Test.YtjeadgnoladnjaaWKept
import Derived.Test.YtjeadgnoladnjaaWShare
import Derived.Test.YtjeadgnoladnjaaWN
import Derived.Test.YtjeadgnoladnjaaWFootNe
import Derived.Test.YtjeadgnoladnjaaWAt
import Derived.Test.YtjeadgnoladnjaaWEqStruct
import Derived.Test.YtjeadgnoladnjaaWRepsOne
import Derived.Test.YtjeadgnoladnjaaWInv
import Derived.Test.YtjeadgnoladnjaaWInvWords
import Derived.Test.YtjeadgnoladnjaaWGuard
import Derived.Test.YtjeadgnoladnjaaWNEv
import Derived.Test.YtjeadgnoladnjaaWMore
namespace Go.Proofs.Ytjeadgnoladnjaa.PFnExactStName
open Go.RowKit Go.Proofs.YtjeadgnoladnjaaW.PrintWords Go.Proofs.YtjeadgnoladnjaaW.PrintLast Go.Proofs.YtjeadgnoladnjaaW.PrintMore
attribute [local go_sem] max2_int min2_int max_two min_two max_three min_three max_four min_four   -- for this text's walks alone
set_option linter.unusedVariables false
set_option linter.unusedSimpArgs false



def errW : Option Int → Value
  | none => .nilIface
  | some c => .iface 0 (.int .i64 c)
theorem errW_none : errW none = .nilIface := rfl
theorem errW_some (c : Int) : errW (some c) = .iface 0 (.int .i64 c) := rfl

theorem info9 : (Try.prog.info? 9).map (fun i => (i.zero, i.size, i.bytes)) = some (some (.string ⟨#[]⟩), 1, 16) := by kernel_rfl
-- the values' own types

end Go.Proofs.Ytjeadgnoladnjaa.PFnExactStName
