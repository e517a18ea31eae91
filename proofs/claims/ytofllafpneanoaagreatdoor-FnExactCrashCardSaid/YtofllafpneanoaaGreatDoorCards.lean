/-
  DERIVED. GIVEN WITH THE SEED: THE CARDS: each row of YtofllafpneanoaaGreatDoorRows.lean that lists a variable, with what it lists TIED to the program's text (the seventh form; the later family's looks); each row that meets fmt, with fmt's text TOLD by the authors' own Lean function (tested against real Go, not proved from fmt's source: count such statements apart). THE CARD IS WHAT COUNTS. Prove the row's statement (the work); the ties are given (YtofllafpneanoaaGreatDoorTie.lean); close each card by the builder's one call (the guide's Derived/Test/ToyasCard.lean, 'card_holds'). Laid BY PROGRAM, IN A SANDBOX (cutbox-door.mjs). By AI agents, Wed Nov 11 2026. No macro, syntax, notation, axiom, sorry.
-/
import Derived.Test.YtofllafpneanoaaGreatDoorRows
import GoSem.ClaimSeven
namespace Go.Proofs.YtofllafpneanoaaGreatDoor
namespace Rows

/-- THE TIED CARD OF 'laws.FnExactCrash'. -/
def fnExactCrashCard : Claim7 := { stood := { row := fnExactCrashRow, standIns := [], harness := (true, "52012da9a635e163ff31292fb36baf30ad1a41be87907618961450794f26f29e"), looks := false }, kinds := [], alts := [], laidByText := true, laidKinds := [.data, .data, .data, .data, .pinned], laidTests := true, laidLooks := .later }
def FnExactCrashCardSaid : Prop := Claim7.holds Tryz.pinned (.plain (OpenSpec.ofChange fnExactCrashSpec)) fnExactCrashCard

/-- THE TIED CARD OF 'laws.FnExactPower'. -/
def fnExactPowerCard : Claim7 := { stood := { row := fnExactPowerRow, standIns := [], harness := (true, "52012da9a635e163ff31292fb36baf30ad1a41be87907618961450794f26f29e"), looks := false }, kinds := [], alts := [], laidByText := true, laidKinds := [.data, .data, .data, .data, .pinned], laidTests := true, laidLooks := .later }
def FnExactPowerCardSaid : Prop := Claim7.holds Tryz.pinned (.plain (OpenSpec.ofChange fnExactPowerSpec)) fnExactPowerCard

/-- THE SECOND FORM's CARD OF 'laws.FnExactCrash'. -/
def fnExactCrashUptoCard : Claim7 := { stood := { row := fnExactCrashUptoRow, standIns := [], harness := (true, "52012da9a635e163ff31292fb36baf30ad1a41be87907618961450794f26f29e"), looks := false }, kinds := [], alts := [], laidByText := true, laidKinds := [.data, .data, .data, .data, .pinned], laidTests := true, laidLooks := .later }
def FnExactCrashUptoCardSaid : Prop := Claim7.holds Tryz.pinned (.plain (OpenSpec.upto fnExactCrashSpec)) fnExactCrashUptoCard

/-- THE SECOND FORM's CARD OF 'laws.FnExactPower'. -/
def fnExactPowerUptoCard : Claim7 := { stood := { row := fnExactPowerUptoRow, standIns := [], harness := (true, "52012da9a635e163ff31292fb36baf30ad1a41be87907618961450794f26f29e"), looks := false }, kinds := [], alts := [], laidByText := true, laidKinds := [.data, .data, .data, .data, .pinned], laidTests := true, laidLooks := .later }
def FnExactPowerUptoCardSaid : Prop := Claim7.holds Tryz.pinned (.plain (OpenSpec.upto fnExactPowerSpec)) fnExactPowerUptoCard
end Rows
end Go.Proofs.YtofllafpneanoaaGreatDoor
