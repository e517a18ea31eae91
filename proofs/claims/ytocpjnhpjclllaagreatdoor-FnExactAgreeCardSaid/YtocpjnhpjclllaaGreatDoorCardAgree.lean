/- The tied card of FnExactAgree. -/
import Derived.Test.YtocpjnhpjclllaaGreatDoorRows
import Derived.Test.YtocpjnhpjclllaaGreatDoorTie
import Derived.Test.YtocpjnhpjclllaaGreatDoorCards
import Derived.Test.YtocpjnhpjclllaaGreatDoorRowAgree
import Derived.SevenTiedAt
set_option linter.unusedVariables false
set_option linter.unusedSimpArgs false
namespace Go.Proofs.YtocpjnhpjclllaaGreatDoor
open Go
/-- THE CARD. -/
theorem fnExactAgree_card : Rows.FnExactAgreeCardSaid :=
  Claim7.holds_tied_plain_at .later [] [.data, .data, .data, .data, .pinned] true (true, "ad929e15fb233f7ae6363d2979dc513c21b59c391733f9298b1fadf7940e5663") false
    fnExactAgree.over (fun _ h => by cases h) (by kernel_rfl) (fun _ h => by cases h) fnExactAgree_row_tie rfl ⟨rfl, rfl⟩ (by kernel_rfl) rfl
    (fun f fn hf hfn => by
      obtain rfl : f = 9 := Option.some.inj ((show Tryz.prog.funcNamed "loop.example/g00482/laws.FnExactAgree" = some 9 by kernel_rfl).symm.trans hf) |>.symm
      obtain rfl : fn = Tryz.f9 := (Option.some.inj (Tryz.func9.symm.trans hfn)).symm
      exact ⟨by kernel_rfl, fun j t ht => by
        rw [Tryz.params9] at ht
        have hm : t ∈ [31, 3] := by simpa using Array.mem_of_getElem? ht
        have hall : ([31, 3].all fun u => !Tryz.prog.wantsStandIn u) = true := by kernel_rfl
        exact (show Tryz.prog.wantsStandIn t = false by simpa using List.all_eq_true.1 hall t hm)⟩)
    (by kernel_rfl)
#print axioms fnExactAgree_card
end Go.Proofs.YtocpjnhpjclllaaGreatDoor
