/- The tied card of FnExactKeeps. -/
import Derived.Test.YtocpjnhpjclllaaGreatDoorRows
import Derived.Test.YtocpjnhpjclllaaGreatDoorTie
import Derived.Test.YtocpjnhpjclllaaGreatDoorCards
import Derived.Test.YtocpjnhpjclllaaGreatDoorRowKeeps
import Derived.SevenTiedAt
set_option linter.unusedVariables false
namespace Go.Proofs.YtocpjnhpjclllaaGreatDoor
set_option linter.unusedSimpArgs false
open Go
/-- THE CARD. -/
theorem fnExactKeeps_card : Rows.FnExactKeepsCardSaid :=
  Claim7.holds_tied_plain_at .later [] [.data, .data, .data, .data, .pinned] true (true, "ad929e15fb233f7ae6363d2979dc513c21b59c391733f9298b1fadf7940e5663") false
    fnExactKeeps.over (fun _ h => by cases h) (by kernel_rfl) (fun _ h => by cases h) fnExactKeeps_row_tie rfl ⟨rfl, rfl⟩ (by kernel_rfl) rfl
    (fun f fn hf hfn => by
      obtain rfl : f = 8 := Option.some.inj ((show Tryz.prog.funcNamed "loop.example/g00482/laws.FnExactKeeps" = some 8 by kernel_rfl).symm.trans hf) |>.symm
      obtain rfl : fn = Tryz.f8 := (Option.some.inj (Tryz.func8.symm.trans hfn)).symm
      exact ⟨by kernel_rfl, fun j t ht => by
        rw [Tryz.params8] at ht
        have hm : t ∈ [31] := by simpa using Array.mem_of_getElem? ht
        have hall : ([31].all fun u => !Tryz.prog.wantsStandIn u) = true := by kernel_rfl
        exact (show Tryz.prog.wantsStandIn t = false by simpa using List.all_eq_true.1 hall t hm)⟩)
    (by kernel_rfl)
#print axioms fnExactKeeps_card
end Go.Proofs.YtocpjnhpjclllaaGreatDoor
