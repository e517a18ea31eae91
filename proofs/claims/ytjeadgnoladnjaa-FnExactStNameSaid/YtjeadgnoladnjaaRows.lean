/-
  No cell of these rows narrows 'for every input' (looked for: loops, veiled, ifaces, maps, wideKeys, modest, calm, conditions, laid).
  DERIVED. THE GIVEN ROWS OF THIS SEAT. 6 by the template 'for every input the law returns true; each argument reads behind the call as it read before'; 0 by the template 'total and deterministic' (their statements: YtjeadgnoladnjaaTotals.lean).
  GIVEN WITH THE SEED: the statements are not yours to turn. If you find one false, say at which input.
  Laid BY PROGRAM, IN A SANDBOX (cutbox-rows.mjs): the forced cells as the released guide's own fill.sh prints them over the translation 0edb78ced73d7d1a… (all of the seat's roots in one cut). By AI agents, Wed Nov 11 2026. No macro, syntax, notation, axiom, sorry.
-/
import Derived.Test.YtjeadgnoladnjaaChecked
import GoSem.Claim
import GoSem.ClaimJoined
import GoSem.ClaimMapViews
import Derived.JoinedTies
import Derived.KernelRfl
namespace Go.Proofs.Ytjeadgnoladnjaa
/- THE CELL 'sum', in the pinned program and in every row, IS THE sha256 OF THE DUMP (.gsa) THAT YtjeadgnoladnjaaProg.lean LOADS. Nothing in Lean hashes anything: it is a label: what it is worth is what the hold of that sum in a sandbox is worth. -/
noncomputable def Try.pinned : Pinned := { name := "ytjeadgnoladnjaa", sum := "0edb78ced73d7d1adf43e8c6a66b4e24560f358282baf632f702565b3c1204d2", checked := Try.checked }
namespace Rows
def none {H : Type} : Left H := { results := [], args := [] }

/-- 'laws.FnExactStName': WHATEVER THE INPUT: true; the input reads as it did. -/
def fnExactStNameSpec : ChangeSpec := { name := "fnExactStName", fn := fun _ => fun
  | [d] => { results := [.lit (.bool true)], args := [d] }
  | _ => none }
def fnExactStNameRow : OpenClaim := { program := "ytjeadgnoladnjaa", sum := "0edb78ced73d7d1adf43e8c6a66b4e24560f358282baf632f702565b3c1204d2", func := "loop.example/g00482/laws.FnExactStName", spec := "fnExactStName", apart := false }
def FnExactStNameSaid : Prop := fnExactStNameRow.holds Try.pinned (OpenSpec.ofChange fnExactStNameSpec)

/-- ITS FALSE NEIGHBOUR: 'it returns false'. Refute it at one input. -/
def fnExactStNameWrong : ChangeSpec := { name := "fnExactStName", fn := fun _ => fun
  | [d] => { results := [.lit (.bool false)], args := [d] }
  | _ => none }
def FnExactStNameWrongFalsely : Prop := fnExactStNameRow.holds Try.pinned (OpenSpec.ofChange fnExactStNameWrong)

/-- 'laws.FnExactReady': WHATEVER THE INPUT: true; the input reads as it did. -/
def fnExactReadySpec : ChangeSpec := { name := "fnExactReady", fn := fun _ => fun
  | [d] => { results := [.lit (.bool true)], args := [d] }
  | _ => none }
def fnExactReadyRow : OpenClaim := { program := "ytjeadgnoladnjaa", sum := "0edb78ced73d7d1adf43e8c6a66b4e24560f358282baf632f702565b3c1204d2", func := "loop.example/g00482/laws.FnExactReady", spec := "fnExactReady", apart := false }
def FnExactReadySaid : Prop := fnExactReadyRow.holds Try.pinned (OpenSpec.ofChange fnExactReadySpec)

/-- ITS FALSE NEIGHBOUR: 'it returns false'. Refute it at one input. -/
def fnExactReadyWrong : ChangeSpec := { name := "fnExactReady", fn := fun _ => fun
  | [d] => { results := [.lit (.bool false)], args := [d] }
  | _ => none }
def FnExactReadyWrongFalsely : Prop := fnExactReadyRow.holds Try.pinned (OpenSpec.ofChange fnExactReadyWrong)

/-- 'laws.FnExactTold': WHATEVER THE INPUT: true; the input reads as it did. -/
def fnExactToldSpec : ChangeSpec := { name := "fnExactTold", fn := fun _ => fun
  | [d] => { results := [.lit (.bool true)], args := [d] }
  | _ => none }
def fnExactToldRow : OpenClaim := { program := "ytjeadgnoladnjaa", sum := "0edb78ced73d7d1adf43e8c6a66b4e24560f358282baf632f702565b3c1204d2", func := "loop.example/g00482/laws.FnExactTold", spec := "fnExactTold", apart := false }
def FnExactToldSaid : Prop := fnExactToldRow.holds Try.pinned (OpenSpec.ofChange fnExactToldSpec)

/-- ITS FALSE NEIGHBOUR: 'it returns false'. Refute it at one input. -/
def fnExactToldWrong : ChangeSpec := { name := "fnExactTold", fn := fun _ => fun
  | [d] => { results := [.lit (.bool false)], args := [d] }
  | _ => none }
def FnExactToldWrongFalsely : Prop := fnExactToldRow.holds Try.pinned (OpenSpec.ofChange fnExactToldWrong)

/-- 'laws.FnExactOwned': WHATEVER THE INPUT: true; the input reads as it did. -/
def fnExactOwnedSpec : ChangeSpec := { name := "fnExactOwned", fn := fun _ => fun
  | [d] => { results := [.lit (.bool true)], args := [d] }
  | _ => none }
def fnExactOwnedRow : OpenClaim := { program := "ytjeadgnoladnjaa", sum := "0edb78ced73d7d1adf43e8c6a66b4e24560f358282baf632f702565b3c1204d2", func := "loop.example/g00482/laws.FnExactOwned", spec := "fnExactOwned", apart := false }
def FnExactOwnedSaid : Prop := fnExactOwnedRow.holds Try.pinned (OpenSpec.ofChange fnExactOwnedSpec)

/-- ITS FALSE NEIGHBOUR: 'it returns false'. Refute it at one input. -/
def fnExactOwnedWrong : ChangeSpec := { name := "fnExactOwned", fn := fun _ => fun
  | [d] => { results := [.lit (.bool false)], args := [d] }
  | _ => none }
def FnExactOwnedWrongFalsely : Prop := fnExactOwnedRow.holds Try.pinned (OpenSpec.ofChange fnExactOwnedWrong)

/-- 'laws.FnExactWholeAsk': WHATEVER THE INPUT: true; the input reads as it did. -/
def fnExactWholeAskSpec : ChangeSpec := { name := "fnExactWholeAsk", fn := fun _ => fun
  | [d1, d2] => { results := [.lit (.bool true)], args := [d1, d2] }
  | _ => none }
def fnExactWholeAskRow : OpenClaim := { program := "ytjeadgnoladnjaa", sum := "0edb78ced73d7d1adf43e8c6a66b4e24560f358282baf632f702565b3c1204d2", func := "loop.example/g00482/laws.FnExactWholeAsk", spec := "fnExactWholeAsk", apart := false }
def FnExactWholeAskSaid : Prop := fnExactWholeAskRow.holds Try.pinned (OpenSpec.ofChange fnExactWholeAskSpec)

/-- ITS FALSE NEIGHBOUR: 'it returns false'. Refute it at one input. -/
def fnExactWholeAskWrong : ChangeSpec := { name := "fnExactWholeAsk", fn := fun _ => fun
  | [d1, d2] => { results := [.lit (.bool false)], args := [d1, d2] }
  | _ => none }
def FnExactWholeAskWrongFalsely : Prop := fnExactWholeAskRow.holds Try.pinned (OpenSpec.ofChange fnExactWholeAskWrong)

/-- 'laws.FnExactAsked': WHATEVER THE INPUT: true; the input reads as it did. -/
def fnExactAskedSpec : ChangeSpec := { name := "fnExactAsked", fn := fun _ => fun
  | [d] => { results := [.lit (.bool true)], args := [d] }
  | _ => none }
def fnExactAskedRow : OpenClaim := { program := "ytjeadgnoladnjaa", sum := "0edb78ced73d7d1adf43e8c6a66b4e24560f358282baf632f702565b3c1204d2", func := "loop.example/g00482/laws.FnExactAsked", spec := "fnExactAsked", apart := false }
def FnExactAskedSaid : Prop := fnExactAskedRow.holds Try.pinned (OpenSpec.ofChange fnExactAskedSpec)

/-- ITS FALSE NEIGHBOUR: 'it returns false'. Refute it at one input. -/
def fnExactAskedWrong : ChangeSpec := { name := "fnExactAsked", fn := fun _ => fun
  | [d] => { results := [.lit (.bool false)], args := [d] }
  | _ => none }
def FnExactAskedWrongFalsely : Prop := fnExactAskedRow.holds Try.pinned (OpenSpec.ofChange fnExactAskedWrong)

/- THE SECOND FORM. 'bulk': how many values and letters a reading holds, each counted each time it is reached (what is shared counts as often as it is met; a slice's spare places count too). A statement '..UptoSaid' is the law's where the arguments, and the package variables that the reading takes, are together of bulk at most 1048576: NARROWER than '..Said'. Prove '..Said' where nothing that the law and all that it calls make is longer than what came in: it says more and counts as full. Else prove '..UptoSaid'. A law counts once. -/
mutual
def uptoBulk {H : Type} : DataW H → Nat
  | .lit (.string bytes) => bytes.length + 1
  | .lit _ => 1
  | .nil => 1
  | .ptr d => uptoBulk d + 1
  | .slice elems spare => uptoBulkAll elems + uptoBulkAll spare + 1
  | .agg parts => uptoBulkAll parts + 1
  | .iface _ d => uptoBulk d + 1
  | .map entries => uptoBulkEntries entries + 1
  | .held _ => 1
def uptoBulkAll {H : Type} : List (DataW H) → Nat
  | [] => 0
  | d :: r => uptoBulk d + uptoBulkAll r
def uptoBulkEntries {H : Type} : List (Lit × DataW H) → Nat
  | [] => 0
  | x :: r => uptoBulkEntry x + uptoBulkEntries r
def uptoBulkEntry {H : Type} : Lit × DataW H → Nat
  | (.string bytes, d) => bytes.length + uptoBulk d + 1
  | (_, d) => uptoBulk d + 1
 end
def uptoSmall : (H : Type) → List (DataW H) → Bool := fun _ ds => decide (uptoBulkAll ds ≤ 1048576)
def OpenSpec.upto (s : _root_.Go.ChangeSpec) : _root_.Go.OpenSpec := { _root_.Go.OpenSpec.ofChange s with cond := some uptoSmall }

/-- 'laws.FnExactStName', WHERE WHAT IT READS IS OF BULK AT MOST 1048576: true; the input reads as it did. -/
def fnExactStNameUptoRow : OpenClaim := { program := "ytjeadgnoladnjaa", sum := "0edb78ced73d7d1adf43e8c6a66b4e24560f358282baf632f702565b3c1204d2", func := "loop.example/g00482/laws.FnExactStName", spec := "fnExactStName", apart := false, narrowed := true }
def FnExactStNameUptoSaid : Prop := fnExactStNameUptoRow.holds Try.pinned (OpenSpec.upto fnExactStNameSpec)

/-- 'laws.FnExactReady', WHERE WHAT IT READS IS OF BULK AT MOST 1048576: true; the input reads as it did. -/
def fnExactReadyUptoRow : OpenClaim := { program := "ytjeadgnoladnjaa", sum := "0edb78ced73d7d1adf43e8c6a66b4e24560f358282baf632f702565b3c1204d2", func := "loop.example/g00482/laws.FnExactReady", spec := "fnExactReady", apart := false, narrowed := true }
def FnExactReadyUptoSaid : Prop := fnExactReadyUptoRow.holds Try.pinned (OpenSpec.upto fnExactReadySpec)

/-- 'laws.FnExactTold', WHERE WHAT IT READS IS OF BULK AT MOST 1048576: true; the input reads as it did. -/
def fnExactToldUptoRow : OpenClaim := { program := "ytjeadgnoladnjaa", sum := "0edb78ced73d7d1adf43e8c6a66b4e24560f358282baf632f702565b3c1204d2", func := "loop.example/g00482/laws.FnExactTold", spec := "fnExactTold", apart := false, narrowed := true }
def FnExactToldUptoSaid : Prop := fnExactToldUptoRow.holds Try.pinned (OpenSpec.upto fnExactToldSpec)

/-- 'laws.FnExactOwned', WHERE WHAT IT READS IS OF BULK AT MOST 1048576: true; the input reads as it did. -/
def fnExactOwnedUptoRow : OpenClaim := { program := "ytjeadgnoladnjaa", sum := "0edb78ced73d7d1adf43e8c6a66b4e24560f358282baf632f702565b3c1204d2", func := "loop.example/g00482/laws.FnExactOwned", spec := "fnExactOwned", apart := false, narrowed := true }
def FnExactOwnedUptoSaid : Prop := fnExactOwnedUptoRow.holds Try.pinned (OpenSpec.upto fnExactOwnedSpec)

/-- 'laws.FnExactWholeAsk', WHERE WHAT IT READS IS OF BULK AT MOST 1048576: true; the input reads as it did. -/
def fnExactWholeAskUptoRow : OpenClaim := { program := "ytjeadgnoladnjaa", sum := "0edb78ced73d7d1adf43e8c6a66b4e24560f358282baf632f702565b3c1204d2", func := "loop.example/g00482/laws.FnExactWholeAsk", spec := "fnExactWholeAsk", apart := false, narrowed := true }
def FnExactWholeAskUptoSaid : Prop := fnExactWholeAskUptoRow.holds Try.pinned (OpenSpec.upto fnExactWholeAskSpec)

/-- 'laws.FnExactAsked', WHERE WHAT IT READS IS OF BULK AT MOST 1048576: true; the input reads as it did. -/
def fnExactAskedUptoRow : OpenClaim := { program := "ytjeadgnoladnjaa", sum := "0edb78ced73d7d1adf43e8c6a66b4e24560f358282baf632f702565b3c1204d2", func := "loop.example/g00482/laws.FnExactAsked", spec := "fnExactAsked", apart := false, narrowed := true }
def FnExactAskedUptoSaid : Prop := fnExactAskedUptoRow.holds Try.pinned (OpenSpec.upto fnExactAskedSpec)

end Rows
end Go.Proofs.Ytjeadgnoladnjaa
