/- Said's plain law, a part: the program's text and the reference's come to the same. -/
import Derived.Test.YtgcelhejmpcchaaPlainSaidG
namespace F2
set_option linter.unusedSimpArgs false
set_option linter.unusedSectionVars false
open Go Go.Fil Go.Proofs
set_option maxRecDepth 100000
set_option linter.unusedVariables false
theorem eqFrames {K : Nat} (hK : maxLen + 2 ≤ K) (r : List y106.T) (h : r.length ≤ 1048576) : g28 K r r = some true := by
  have hm : maxLen = 2 ^ 63 - 1 := rfl
  rw [g28.eq]
  exact eq_fn (L := fun k v => L28_4 K k r r v) (G := fun a b => g58 K a b) (z := y106.zero) hK (fun k v => L28_4.step K k r r v) (by omega) (fun y _ => by simp only [g58.eq, ne_self, strEq_self, Bool.not_true, br_f])
end F2
