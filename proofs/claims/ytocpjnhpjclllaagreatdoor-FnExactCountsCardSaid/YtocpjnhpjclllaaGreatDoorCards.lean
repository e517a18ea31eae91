/-
  DERIVED. GIVEN WITH THE SEED: THE CARDS: each row of YtocpjnhpjclllaaGreatDoorRows.lean that lists a variable, with what it lists TIED to the program's text (the seventh form; the later family's looks); each row that meets fmt, with fmt's text TOLD by the authors' own Lean function (tested against real Go, not proved from fmt's source: count such statements apart). THE CARD IS WHAT COUNTS. Prove the row's statement (the work); the ties are given (YtocpjnhpjclllaaGreatDoorTie.lean); close each card by the builder's one call (the guide's Derived/Test/ToyasCard.lean, 'card_holds'). Laid BY PROGRAM, IN A SANDBOX (cutbox-door.mjs). By AI agents, Wed Nov 11 2026. No macro, syntax, notation, axiom, sorry.
-/
import Derived.Test.YtocpjnhpjclllaaGreatDoorRows
import GoSem.ClaimSeven
namespace Go.Proofs.YtocpjnhpjclllaaGreatDoor
namespace Rows

/-- THE TIED CARD OF 'laws.FnExactKnownOf'. -/
def fnExactKnownOfCard : Claim7 := { stood := { row := fnExactKnownOfRow, standIns := [], harness := (true, "ad929e15fb233f7ae6363d2979dc513c21b59c391733f9298b1fadf7940e5663"), looks := false }, kinds := [], alts := [], laidByText := true, laidKinds := [.data, .data, .data, .data, .pinned], laidTests := true, laidLooks := .later }
def FnExactKnownOfCardSaid : Prop := Claim7.holds Tryz.pinned (.plain (OpenSpec.ofChange fnExactKnownOfSpec)) fnExactKnownOfCard

/-- THE TIED CARD OF 'laws.FnExactCounts'. -/
def fnExactCountsCard : Claim7 := { stood := { row := fnExactCountsRow, standIns := [], harness := (true, "ad929e15fb233f7ae6363d2979dc513c21b59c391733f9298b1fadf7940e5663"), looks := false }, kinds := [], alts := [], laidByText := true, laidKinds := [.data, .data, .data, .data, .pinned], laidTests := true, laidLooks := .later }
def FnExactCountsCardSaid : Prop := Claim7.holds Tryz.pinned (.plain (OpenSpec.ofChange fnExactCountsSpec)) fnExactCountsCard

/-- THE TIED CARD OF 'laws.FnExactWorldOk'. -/
def fnExactWorldOkCard : Claim7 := { stood := { row := fnExactWorldOkRow, standIns := [], harness := (true, "ad929e15fb233f7ae6363d2979dc513c21b59c391733f9298b1fadf7940e5663"), looks := false }, kinds := [], alts := [], laidByText := true, laidKinds := [.data, .data, .data, .data, .pinned], laidTests := true, laidLooks := .later }
def FnExactWorldOkCardSaid : Prop := Claim7.holds Tryz.pinned (.plain (OpenSpec.ofChange fnExactWorldOkSpec)) fnExactWorldOkCard

/-- THE TIED CARD OF 'laws.FnExactSingle'. -/
def fnExactSingleCard : Claim7 := { stood := { row := fnExactSingleRow, standIns := [], harness := (true, "ad929e15fb233f7ae6363d2979dc513c21b59c391733f9298b1fadf7940e5663"), looks := false }, kinds := [], alts := [], laidByText := true, laidKinds := [.data, .data, .data, .data, .pinned], laidTests := true, laidLooks := .later }
def FnExactSingleCardSaid : Prop := Claim7.holds Tryz.pinned (.plain (OpenSpec.ofChange fnExactSingleSpec)) fnExactSingleCard

/-- THE TIED CARD OF 'laws.FnExactStill'. -/
def fnExactStillCard : Claim7 := { stood := { row := fnExactStillRow, standIns := [], harness := (true, "ad929e15fb233f7ae6363d2979dc513c21b59c391733f9298b1fadf7940e5663"), looks := false }, kinds := [], alts := [], laidByText := true, laidKinds := [.data, .data, .data, .data, .pinned], laidTests := true, laidLooks := .later }
def FnExactStillCardSaid : Prop := Claim7.holds Tryz.pinned (.plain (OpenSpec.ofChange fnExactStillSpec)) fnExactStillCard

/-- THE TIED CARD OF 'laws.FnExactKeeps'. -/
def fnExactKeepsCard : Claim7 := { stood := { row := fnExactKeepsRow, standIns := [], harness := (true, "ad929e15fb233f7ae6363d2979dc513c21b59c391733f9298b1fadf7940e5663"), looks := false }, kinds := [], alts := [], laidByText := true, laidKinds := [.data, .data, .data, .data, .pinned], laidTests := true, laidLooks := .later }
def FnExactKeepsCardSaid : Prop := Claim7.holds Tryz.pinned (.plain (OpenSpec.ofChange fnExactKeepsSpec)) fnExactKeepsCard

/-- THE TIED CARD OF 'laws.FnExactAgree'. -/
def fnExactAgreeCard : Claim7 := { stood := { row := fnExactAgreeRow, standIns := [], harness := (true, "ad929e15fb233f7ae6363d2979dc513c21b59c391733f9298b1fadf7940e5663"), looks := false }, kinds := [], alts := [], laidByText := true, laidKinds := [.data, .data, .data, .data, .pinned], laidTests := true, laidLooks := .later }
def FnExactAgreeCardSaid : Prop := Claim7.holds Tryz.pinned (.plain (OpenSpec.ofChange fnExactAgreeSpec)) fnExactAgreeCard

/-- THE SECOND FORM's CARD OF 'laws.FnExactKnownOf'. -/
def fnExactKnownOfUptoCard : Claim7 := { stood := { row := fnExactKnownOfUptoRow, standIns := [], harness := (true, "ad929e15fb233f7ae6363d2979dc513c21b59c391733f9298b1fadf7940e5663"), looks := false }, kinds := [], alts := [], laidByText := true, laidKinds := [.data, .data, .data, .data, .pinned], laidTests := true, laidLooks := .later }
def FnExactKnownOfUptoCardSaid : Prop := Claim7.holds Tryz.pinned (.plain (OpenSpec.upto fnExactKnownOfSpec)) fnExactKnownOfUptoCard

/-- THE SECOND FORM's CARD OF 'laws.FnExactCounts'. -/
def fnExactCountsUptoCard : Claim7 := { stood := { row := fnExactCountsUptoRow, standIns := [], harness := (true, "ad929e15fb233f7ae6363d2979dc513c21b59c391733f9298b1fadf7940e5663"), looks := false }, kinds := [], alts := [], laidByText := true, laidKinds := [.data, .data, .data, .data, .pinned], laidTests := true, laidLooks := .later }
def FnExactCountsUptoCardSaid : Prop := Claim7.holds Tryz.pinned (.plain (OpenSpec.upto fnExactCountsSpec)) fnExactCountsUptoCard

/-- THE SECOND FORM's CARD OF 'laws.FnExactWorldOk'. -/
def fnExactWorldOkUptoCard : Claim7 := { stood := { row := fnExactWorldOkUptoRow, standIns := [], harness := (true, "ad929e15fb233f7ae6363d2979dc513c21b59c391733f9298b1fadf7940e5663"), looks := false }, kinds := [], alts := [], laidByText := true, laidKinds := [.data, .data, .data, .data, .pinned], laidTests := true, laidLooks := .later }
def FnExactWorldOkUptoCardSaid : Prop := Claim7.holds Tryz.pinned (.plain (OpenSpec.upto fnExactWorldOkSpec)) fnExactWorldOkUptoCard

/-- THE SECOND FORM's CARD OF 'laws.FnExactSingle'. -/
def fnExactSingleUptoCard : Claim7 := { stood := { row := fnExactSingleUptoRow, standIns := [], harness := (true, "ad929e15fb233f7ae6363d2979dc513c21b59c391733f9298b1fadf7940e5663"), looks := false }, kinds := [], alts := [], laidByText := true, laidKinds := [.data, .data, .data, .data, .pinned], laidTests := true, laidLooks := .later }
def FnExactSingleUptoCardSaid : Prop := Claim7.holds Tryz.pinned (.plain (OpenSpec.upto fnExactSingleSpec)) fnExactSingleUptoCard

/-- THE SECOND FORM's CARD OF 'laws.FnExactStill'. -/
def fnExactStillUptoCard : Claim7 := { stood := { row := fnExactStillUptoRow, standIns := [], harness := (true, "ad929e15fb233f7ae6363d2979dc513c21b59c391733f9298b1fadf7940e5663"), looks := false }, kinds := [], alts := [], laidByText := true, laidKinds := [.data, .data, .data, .data, .pinned], laidTests := true, laidLooks := .later }
def FnExactStillUptoCardSaid : Prop := Claim7.holds Tryz.pinned (.plain (OpenSpec.upto fnExactStillSpec)) fnExactStillUptoCard

/-- THE SECOND FORM's CARD OF 'laws.FnExactKeeps'. -/
def fnExactKeepsUptoCard : Claim7 := { stood := { row := fnExactKeepsUptoRow, standIns := [], harness := (true, "ad929e15fb233f7ae6363d2979dc513c21b59c391733f9298b1fadf7940e5663"), looks := false }, kinds := [], alts := [], laidByText := true, laidKinds := [.data, .data, .data, .data, .pinned], laidTests := true, laidLooks := .later }
def FnExactKeepsUptoCardSaid : Prop := Claim7.holds Tryz.pinned (.plain (OpenSpec.upto fnExactKeepsSpec)) fnExactKeepsUptoCard

/-- THE SECOND FORM's CARD OF 'laws.FnExactAgree'. -/
def fnExactAgreeUptoCard : Claim7 := { stood := { row := fnExactAgreeUptoRow, standIns := [], harness := (true, "ad929e15fb233f7ae6363d2979dc513c21b59c391733f9298b1fadf7940e5663"), looks := false }, kinds := [], alts := [], laidByText := true, laidKinds := [.data, .data, .data, .data, .pinned], laidTests := true, laidLooks := .later }
def FnExactAgreeUptoCardSaid : Prop := Claim7.holds Tryz.pinned (.plain (OpenSpec.upto fnExactAgreeSpec)) fnExactAgreeUptoCard
end Rows
end Go.Proofs.YtocpjnhpjclllaaGreatDoor
