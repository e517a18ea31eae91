/- The tied card of FnExactCrash. -/
import Derived.Test.YtofllafpneanoaaGreatDoorRows
import Derived.Test.YtofllafpneanoaaGreatDoorTie
import Derived.Test.YtofllafpneanoaaGreatDoorCards
import Derived.Test.YtofllafpneanoaaGreatDoorRowCrash
import Derived.SevenTiedAt
set_option linter.unusedVariables false
set_option linter.unusedSimpArgs false
namespace Go.Proofs.YtofllafpneanoaaGreatDoor
open Go
/-- THE CARD. -/
theorem fnExactCrash_card:Rows.FnExactCrashCardSaid :=
 Claim7.holds_tied_plain_at .later [] [.data,.data,.data,.data,.pinned] true (true, "52012da9a635e163ff31292fb36baf30ad1a41be87907618961450794f26f29e") false
  fnExactCrash.over (fun _ h=>by cases h) (by kernel_rfl) (fun _ h=>by cases h) fnExactCrash_row_tie rfl ⟨rfl,rfl⟩ (by kernel_rfl) rfl
  (fun f fn hf hfn=>by
   obtain rfl:f = 3:=Option.some.inj ((show Tryz.prog.funcNamed "loop.example/g00482/laws.FnExactCrash" = some 3 by kernel_rfl).symm.trans hf) |>.symm
   obtain rfl:fn = Tryz.f3:=(Option.some.inj (Tryz.func3.symm.trans hfn)).symm
   exact ⟨by kernel_rfl,fun j t ht=>by
    rw [Tryz.params3] at ht
    have hm:t∈[31,3]:=by simpa using Array.mem_of_getElem? ht
    have hall:([31,3].all fun u=>!Tryz.prog.wantsStandIn u) = true:=by kernel_rfl
    exact (show Tryz.prog.wantsStandIn t = false by simpa using List.all_eq_true.1 hall t hm)⟩)
  (by kernel_rfl)
#print axioms fnExactCrash_card
end Go.Proofs.YtofllafpneanoaaGreatDoor
