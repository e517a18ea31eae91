/-
  No cell of these rows narrows 'for every input' (looked for: loops, veiled, ifaces, maps, wideKeys, modest, calm, conditions, laid).
  DERIVED. THE GIVEN ROWS OF THIS SEAT. 5 by the template 'for every input the law returns true; each argument reads behind the call as it read before'; 0 by the template 'total and deterministic' (their statements: YtgcelhejmpcchaaTotals.lean).
  GIVEN WITH THE SEED: the statements are not yours to turn. If you find one false, say at which input.
  Laid BY PROGRAM, IN A SANDBOX (cutbox-rows.mjs): the forced cells as the released guide's own fill.sh prints them over the translation d322b6a204f53109… (all of the seat's roots in one cut). By AI agents, Wed Nov 11 2026. No macro, syntax, notation, axiom, sorry.
-/
import Derived.Test.YtgcelhejmpcchaaChecked
import GoSem.Claim
import GoSem.ClaimJoined
import GoSem.ClaimMapViews
import Derived.JoinedTies
import Derived.KernelRfl
namespace Go.Proofs.Ytgcelhejmpcchaa
/- THE CELL 'sum', in the pinned program and in every row, IS THE sha256 OF THE DUMP (.gsa) THAT YtgcelhejmpcchaaProg.lean LOADS. Nothing in Lean hashes anything: it is a label: what it is worth is what the hold of that sum in a sandbox is worth. -/
noncomputable def Try.pinned : Pinned := { name := "ytgcelhejmpcchaa", sum := "d322b6a204f53109ceeef05550a156c56ba09a5c38995145c0c162b0812e3849", checked := Try.checked }
namespace Rows
def none {H : Type} : Left H := { results := [], args := [] }

/-- 'laws.FnExactAnswers': WHATEVER THE INPUT: true; the input reads as it did. -/
def fnExactAnswersSpec : ChangeSpec := { name := "fnExactAnswers", fn := fun _ => fun
  | [d] => { results := [.lit (.bool true)], args := [d] }
  | _ => none }
def fnExactAnswersRow : OpenClaim := { program := "ytgcelhejmpcchaa", sum := "d322b6a204f53109ceeef05550a156c56ba09a5c38995145c0c162b0812e3849", func := "loop.example/g00482/laws.FnExactAnswers", spec := "fnExactAnswers", apart := false }
def FnExactAnswersSaid : Prop := fnExactAnswersRow.holds Try.pinned (OpenSpec.ofChange fnExactAnswersSpec)

/-- ITS FALSE NEIGHBOUR: 'it returns false'. Refute it at one input. -/
def fnExactAnswersWrong : ChangeSpec := { name := "fnExactAnswers", fn := fun _ => fun
  | [d] => { results := [.lit (.bool false)], args := [d] }
  | _ => none }
def FnExactAnswersWrongFalsely : Prop := fnExactAnswersRow.holds Try.pinned (OpenSpec.ofChange fnExactAnswersWrong)

/-- 'laws.FnExactLateOf': WHATEVER THE INPUT: true; the input reads as it did. -/
def fnExactLateOfSpec : ChangeSpec := { name := "fnExactLateOf", fn := fun _ => fun
  | [d1, d2] => { results := [.lit (.bool true)], args := [d1, d2] }
  | _ => none }
def fnExactLateOfRow : OpenClaim := { program := "ytgcelhejmpcchaa", sum := "d322b6a204f53109ceeef05550a156c56ba09a5c38995145c0c162b0812e3849", func := "loop.example/g00482/laws.FnExactLateOf", spec := "fnExactLateOf", unfollowed := true, recurses := true, apart := false }
def FnExactLateOfSaid : Prop := fnExactLateOfRow.holds Try.pinned (OpenSpec.ofChange fnExactLateOfSpec)

/-- ITS FALSE NEIGHBOUR: 'it returns false'. Refute it at one input. -/
def fnExactLateOfWrong : ChangeSpec := { name := "fnExactLateOf", fn := fun _ => fun
  | [d1, d2] => { results := [.lit (.bool false)], args := [d1, d2] }
  | _ => none }
def FnExactLateOfWrongFalsely : Prop := fnExactLateOfRow.holds Try.pinned (OpenSpec.ofChange fnExactLateOfWrong)

/-- 'laws.FnExactServing': WHATEVER THE INPUT: true; the input reads as it did. -/
def fnExactServingSpec : ChangeSpec := { name := "fnExactServing", fn := fun _ => fun
  | [d] => { results := [.lit (.bool true)], args := [d] }
  | _ => none }
def fnExactServingRow : OpenClaim := { program := "ytgcelhejmpcchaa", sum := "d322b6a204f53109ceeef05550a156c56ba09a5c38995145c0c162b0812e3849", func := "loop.example/g00482/laws.FnExactServing", spec := "fnExactServing", apart := false }
def FnExactServingSaid : Prop := fnExactServingRow.holds Try.pinned (OpenSpec.ofChange fnExactServingSpec)

/-- ITS FALSE NEIGHBOUR: 'it returns false'. Refute it at one input. -/
def fnExactServingWrong : ChangeSpec := { name := "fnExactServing", fn := fun _ => fun
  | [d] => { results := [.lit (.bool false)], args := [d] }
  | _ => none }
def FnExactServingWrongFalsely : Prop := fnExactServingRow.holds Try.pinned (OpenSpec.ofChange fnExactServingWrong)

/-- 'laws.FnExactHeldBy': WHATEVER THE INPUT: true; the input reads as it did. -/
def fnExactHeldBySpec : ChangeSpec := { name := "fnExactHeldBy", fn := fun _ => fun
  | [d1, d2] => { results := [.lit (.bool true)], args := [d1, d2] }
  | _ => none }
def fnExactHeldByRow : OpenClaim := { program := "ytgcelhejmpcchaa", sum := "d322b6a204f53109ceeef05550a156c56ba09a5c38995145c0c162b0812e3849", func := "loop.example/g00482/laws.FnExactHeldBy", spec := "fnExactHeldBy", apart := false }
def FnExactHeldBySaid : Prop := fnExactHeldByRow.holds Try.pinned (OpenSpec.ofChange fnExactHeldBySpec)

/-- ITS FALSE NEIGHBOUR: 'it returns false'. Refute it at one input. -/
def fnExactHeldByWrong : ChangeSpec := { name := "fnExactHeldBy", fn := fun _ => fun
  | [d1, d2] => { results := [.lit (.bool false)], args := [d1, d2] }
  | _ => none }
def FnExactHeldByWrongFalsely : Prop := fnExactHeldByRow.holds Try.pinned (OpenSpec.ofChange fnExactHeldByWrong)

/-- 'laws.FnExactSaid': WHATEVER THE INPUT: true; the input reads as it did. -/
def fnExactSaidSpec : ChangeSpec := { name := "fnExactSaid", fn := fun _ => fun
  | [d1, d2] => { results := [.lit (.bool true)], args := [d1, d2] }
  | _ => none }
def fnExactSaidRow : OpenClaim := { program := "ytgcelhejmpcchaa", sum := "d322b6a204f53109ceeef05550a156c56ba09a5c38995145c0c162b0812e3849", func := "loop.example/g00482/laws.FnExactSaid", spec := "fnExactSaid", unfollowed := true, recurses := true, apart := false }
def FnExactSaidSaid : Prop := fnExactSaidRow.holds Try.pinned (OpenSpec.ofChange fnExactSaidSpec)

/-- ITS FALSE NEIGHBOUR: 'it returns false'. Refute it at one input. -/
def fnExactSaidWrong : ChangeSpec := { name := "fnExactSaid", fn := fun _ => fun
  | [d1, d2] => { results := [.lit (.bool false)], args := [d1, d2] }
  | _ => none }
def FnExactSaidWrongFalsely : Prop := fnExactSaidRow.holds Try.pinned (OpenSpec.ofChange fnExactSaidWrong)

/- THE SECOND FORM. 'bulk': how many values and letters a reading holds, each counted each time it is reached (what is shared counts as often as it is met; a slice's spare places count too). A statement '..UptoSaid' is the law's where the arguments, and the package variables that the reading takes, are together of bulk at most 1048576: NARROWER than '..Said'. Prove '..Said' where nothing that the law and all that it calls make is longer than what came in: it says more and counts as full. Else prove '..UptoSaid'. A law counts once. -/
mutual
def uptoBulk {H : Type} : DataW H → Nat
  | .lit (.string bytes) => bytes.length + 1
  | .lit _ => 1
  | .nil => 1
  | .ptr d => uptoBulk d + 1
  | .slice elems spare => uptoBulkAll elems + uptoBulkAll spare + 1
  | .agg parts => uptoBulkAll parts + 1
  | .iface _ d => uptoBulk d + 1
  | .map entries => uptoBulkEntries entries + 1
  | .held _ => 1
def uptoBulkAll {H : Type} : List (DataW H) → Nat
  | [] => 0
  | d :: r => uptoBulk d + uptoBulkAll r
def uptoBulkEntries {H : Type} : List (Lit × DataW H) → Nat
  | [] => 0
  | x :: r => uptoBulkEntry x + uptoBulkEntries r
def uptoBulkEntry {H : Type} : Lit × DataW H → Nat
  | (.string bytes, d) => bytes.length + uptoBulk d + 1
  | (_, d) => uptoBulk d + 1
 end
def uptoSmall : (H : Type) → List (DataW H) → Bool := fun _ ds => decide (uptoBulkAll ds ≤ 1048576)
def OpenSpec.upto (s : _root_.Go.ChangeSpec) : _root_.Go.OpenSpec := { _root_.Go.OpenSpec.ofChange s with cond := some uptoSmall }

/-- 'laws.FnExactAnswers', WHERE WHAT IT READS IS OF BULK AT MOST 1048576: true; the input reads as it did. -/
def fnExactAnswersUptoRow : OpenClaim := { program := "ytgcelhejmpcchaa", sum := "d322b6a204f53109ceeef05550a156c56ba09a5c38995145c0c162b0812e3849", func := "loop.example/g00482/laws.FnExactAnswers", spec := "fnExactAnswers", apart := false, narrowed := true }
def FnExactAnswersUptoSaid : Prop := fnExactAnswersUptoRow.holds Try.pinned (OpenSpec.upto fnExactAnswersSpec)

/-- 'laws.FnExactLateOf', WHERE WHAT IT READS IS OF BULK AT MOST 1048576: true; the input reads as it did. -/
def fnExactLateOfUptoRow : OpenClaim := { program := "ytgcelhejmpcchaa", sum := "d322b6a204f53109ceeef05550a156c56ba09a5c38995145c0c162b0812e3849", func := "loop.example/g00482/laws.FnExactLateOf", spec := "fnExactLateOf", unfollowed := true, recurses := true, apart := false, narrowed := true }
def FnExactLateOfUptoSaid : Prop := fnExactLateOfUptoRow.holds Try.pinned (OpenSpec.upto fnExactLateOfSpec)

/-- 'laws.FnExactServing', WHERE WHAT IT READS IS OF BULK AT MOST 1048576: true; the input reads as it did. -/
def fnExactServingUptoRow : OpenClaim := { program := "ytgcelhejmpcchaa", sum := "d322b6a204f53109ceeef05550a156c56ba09a5c38995145c0c162b0812e3849", func := "loop.example/g00482/laws.FnExactServing", spec := "fnExactServing", apart := false, narrowed := true }
def FnExactServingUptoSaid : Prop := fnExactServingUptoRow.holds Try.pinned (OpenSpec.upto fnExactServingSpec)

/-- 'laws.FnExactHeldBy', WHERE WHAT IT READS IS OF BULK AT MOST 1048576: true; the input reads as it did. -/
def fnExactHeldByUptoRow : OpenClaim := { program := "ytgcelhejmpcchaa", sum := "d322b6a204f53109ceeef05550a156c56ba09a5c38995145c0c162b0812e3849", func := "loop.example/g00482/laws.FnExactHeldBy", spec := "fnExactHeldBy", apart := false, narrowed := true }
def FnExactHeldByUptoSaid : Prop := fnExactHeldByUptoRow.holds Try.pinned (OpenSpec.upto fnExactHeldBySpec)

/-- 'laws.FnExactSaid', WHERE WHAT IT READS IS OF BULK AT MOST 1048576: true; the input reads as it did. -/
def fnExactSaidUptoRow : OpenClaim := { program := "ytgcelhejmpcchaa", sum := "d322b6a204f53109ceeef05550a156c56ba09a5c38995145c0c162b0812e3849", func := "loop.example/g00482/laws.FnExactSaid", spec := "fnExactSaid", unfollowed := true, recurses := true, apart := false, narrowed := true }
def FnExactSaidUptoSaid : Prop := fnExactSaidUptoRow.holds Try.pinned (OpenSpec.upto fnExactSaidSpec)

end Rows
end Go.Proofs.Ytgcelhejmpcchaa
