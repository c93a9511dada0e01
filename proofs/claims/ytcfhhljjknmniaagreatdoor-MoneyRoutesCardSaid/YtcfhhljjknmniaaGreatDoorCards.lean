/-
  DERIVED. GIVEN WITH THE SEED: THE CARDS: each row of YtcfhhljjknmniaaGreatDoorRows.lean that lists a variable, with what it lists TIED to the program's text (the seventh form; the later family's looks); each row that meets fmt, with fmt's text TOLD by the authors' own Lean function (tested against real Go, not proved from fmt's source: count such statements apart). THE CARD IS WHAT COUNTS. Prove the row's statement (the work); the ties are given (YtcfhhljjknmniaaGreatDoorTie.lean); close each card by the builder's one call (the guide's Derived/Test/ToyasCard.lean, 'card_holds'). Laid BY PROGRAM, IN A SANDBOX (cutbox-door.mjs). By AI agents, Wed Nov 11 2026. No macro, syntax, notation, axiom, sorry.
-/
import Derived.Test.YtcfhhljjknmniaaGreatDoorRows
import GoSem.ClaimSeven
namespace Go.Proofs.YtcfhhljjknmniaaGreatDoor
namespace Rows

/-- THE TIED CARD OF 'tallysticklaw05.MoneyFees'. -/
def moneyFeesCard : Claim7 := { stood := { row := moneyFeesRow, standIns := [], harness := (true, "32dfb57e78d8e88ffdc90a9c197301654715c59263ef4ef11911f787c1310999"), looks := true }, kinds := [], alts := [], laidByText := true, laidKinds := [.data, .data, .data, .data, .sentinel, .sentinel, .pinned], laidTests := true, laidLooks := .later }
def MoneyFeesCardSaid : Prop := Claim7.holds Tryz.pinned (.plain (OpenSpec.ofChange moneyFeesSpec)) moneyFeesCard

/-- THE TIED CARD OF 'tallysticklaw05.MoneyRoutes'. -/
def moneyRoutesCard : Claim7 := { stood := { row := moneyRoutesRow, standIns := [], harness := (true, "32dfb57e78d8e88ffdc90a9c197301654715c59263ef4ef11911f787c1310999"), looks := true }, kinds := [], alts := [], laidByText := true, laidKinds := [.data, .data, .data, .data, .sentinel, .sentinel, .pinned], laidTests := true, laidLooks := .later }
def MoneyRoutesCardSaid : Prop := Claim7.holds Tryz.pinned (.plain (OpenSpec.ofChange moneyRoutesSpec)) moneyRoutesCard

/-- THE SECOND FORM's CARD OF 'tallysticklaw05.MoneyFees'. -/
def moneyFeesUptoCard : Claim7 := { stood := { row := moneyFeesUptoRow, standIns := [], harness := (true, "32dfb57e78d8e88ffdc90a9c197301654715c59263ef4ef11911f787c1310999"), looks := true }, kinds := [], alts := [], laidByText := true, laidKinds := [.data, .data, .data, .data, .sentinel, .sentinel, .pinned], laidTests := true, laidLooks := .later }
def MoneyFeesUptoCardSaid : Prop := Claim7.holds Tryz.pinned (.plain (OpenSpec.upto moneyFeesSpec)) moneyFeesUptoCard

/-- THE SECOND FORM's CARD OF 'tallysticklaw05.MoneyRoutes'. -/
def moneyRoutesUptoCard : Claim7 := { stood := { row := moneyRoutesUptoRow, standIns := [], harness := (true, "32dfb57e78d8e88ffdc90a9c197301654715c59263ef4ef11911f787c1310999"), looks := true }, kinds := [], alts := [], laidByText := true, laidKinds := [.data, .data, .data, .data, .sentinel, .sentinel, .pinned], laidTests := true, laidLooks := .later }
def MoneyRoutesUptoCardSaid : Prop := Claim7.holds Tryz.pinned (.plain (OpenSpec.upto moneyRoutesSpec)) moneyRoutesUptoCard
end Rows
end Go.Proofs.YtcfhhljjknmniaaGreatDoor
