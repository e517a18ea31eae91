/- The tied card of FnExactCounts. -/
import Derived.Test.YtocpjnhpjclllaaGreatDoorRows
import Derived.Test.YtocpjnhpjclllaaGreatDoorTie
import Derived.Test.YtocpjnhpjclllaaGreatDoorCards
import Derived.Test.YtocpjnhpjclllaaGreatDoorCRowCounts
import Derived.SevenTiedAt
set_option linter.unusedVariables false
set_option linter.unusedSimpArgs false
namespace Go.Proofs.YtocpjnhpjclllaaGreatDoor
open Go
/-- THE CARD. -/
theorem fnExactCounts_card : Rows.FnExactCountsCardSaid :=
  Claim7.holds_tied_plain_at .later [] [.data, .data, .data, .data, .pinned] true (true, "ad929e15fb233f7ae6363d2979dc513c21b59c391733f9298b1fadf7940e5663") false
    fnExactCounts.over (fun _ h => by cases h) (by kernel_rfl) (fun _ h => by cases h) fnExactCounts_row_tie rfl ⟨rfl, rfl⟩ (by kernel_rfl) rfl
    (fun f fn hf hfn => by
      obtain rfl : f = 4 := Option.some.inj ((show Tryz.prog.funcNamed "loop.example/g00482/laws.FnExactCounts" = some 4 by kernel_rfl).symm.trans hf) |>.symm
      obtain rfl : fn = Tryz.f4 := (Option.some.inj (Tryz.func4.symm.trans hfn)).symm
      exact ⟨by kernel_rfl, fun j t ht => by
        rw [Tryz.params4] at ht
        have hm : t ∈ [31] := by simpa using Array.mem_of_getElem? ht
        have hall : ([31].all fun u => !Tryz.prog.wantsStandIn u) = true := by kernel_rfl
        exact (show Tryz.prog.wantsStandIn t = false by simpa using List.all_eq_true.1 hall t hm)⟩)
    (by kernel_rfl)
#print axioms fnExactCounts_card
end Go.Proofs.YtocpjnhpjclllaaGreatDoor
