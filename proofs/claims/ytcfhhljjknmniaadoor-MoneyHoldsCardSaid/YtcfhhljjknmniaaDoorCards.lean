/-
  DERIVED. GIVEN WITH THE SEED: THE CARDS: each row of YtcfhhljjknmniaaDoorRows.lean that lists a variable, with what it lists TIED to the program's text (the seventh form; the later family's looks); each row that meets fmt, with fmt's text TOLD by the authors' own Lean function (tested against real Go, not proved from fmt's source: count such statements apart). THE CARD IS WHAT COUNTS. Prove the row's statement (the work); the ties are given (YtcfhhljjknmniaaDoorTie.lean); close each card by the builder's one call (the guide's Derived/Test/ToyasCard.lean, 'card_holds'). Laid BY PROGRAM, IN A SANDBOX (cutbox-door.mjs). By AI agents, Wed Nov 11 2026. No macro, syntax, notation, axiom, sorry.
-/
import Derived.Test.YtcfhhljjknmniaaDoorRows
import GoSem.ClaimSeven
namespace Go.Proofs.YtcfhhljjknmniaaDoor
namespace Rows

/-- THE TIED CARD OF 'tallysticklaw05.MoneySums'. -/
def moneySumsCard : Claim7 := { stood := { row := moneySumsRow, standIns := [], harness := (true, "267c334e53f252caddf44b2ff21a4dc8651f42cda4d7a6c8b4d1b212fa45ce57"), looks := true }, kinds := [], alts := [], laidByText := true, laidKinds := [.data, .data, .data, .data, .sentinel, .sentinel, .pinned], laidTests := true, laidLooks := .later }
def MoneySumsCardSaid : Prop := Claim7.holds Tryd.pinned (.plain (OpenSpec.ofChange moneySumsSpec)) moneySumsCard

/-- THE TIED CARD OF 'tallysticklaw05.MoneyShares'. -/
def moneySharesCard : Claim7 := { stood := { row := moneySharesRow, standIns := [], harness := (true, "267c334e53f252caddf44b2ff21a4dc8651f42cda4d7a6c8b4d1b212fa45ce57"), looks := true }, kinds := [], alts := [], laidByText := true, laidKinds := [.data, .data, .data, .data, .sentinel, .sentinel, .pinned], laidTests := true, laidLooks := .later }
def MoneySharesCardSaid : Prop := Claim7.holds Tryd.pinned (.plain (OpenSpec.ofChange moneySharesSpec)) moneySharesCard

/-- THE TIED CARD OF 'tallysticklaw05.MoneyTexts'. -/
def moneyTextsCard : Claim7 := { stood := { row := moneyTextsRow, standIns := [], harness := (true, "267c334e53f252caddf44b2ff21a4dc8651f42cda4d7a6c8b4d1b212fa45ce57"), looks := true }, kinds := [], alts := [], laidByText := true, laidKinds := [.data, .data, .data, .data, .sentinel, .sentinel, .pinned], laidTests := true, laidLooks := .later }
def MoneyTextsCardSaid : Prop := Claim7.holds Tryd.pinned (.plain (OpenSpec.ofChange moneyTextsSpec)) moneyTextsCard

/-- THE TIED CARD OF 'tallysticklaw05.MoneyMids'. -/
def moneyMidsCard : Claim7 := { stood := { row := moneyMidsRow, standIns := [], harness := (true, "267c334e53f252caddf44b2ff21a4dc8651f42cda4d7a6c8b4d1b212fa45ce57"), looks := true }, kinds := [], alts := [], laidByText := true, laidKinds := [.data, .data, .data, .data, .sentinel, .sentinel, .pinned], laidTests := true, laidLooks := .later }
def MoneyMidsCardSaid : Prop := Claim7.holds Tryd.pinned (.plain (OpenSpec.ofChange moneyMidsSpec)) moneyMidsCard

/-- THE TIED CARD OF 'tallysticklaw05.MoneyParts'. -/
def moneyPartsCard : Claim7 := { stood := { row := moneyPartsRow, standIns := [], harness := (true, "267c334e53f252caddf44b2ff21a4dc8651f42cda4d7a6c8b4d1b212fa45ce57"), looks := true }, kinds := [], alts := [], laidByText := true, laidKinds := [.data, .data, .data, .data, .sentinel, .sentinel, .pinned], laidTests := true, laidLooks := .later }
def MoneyPartsCardSaid : Prop := Claim7.holds Tryd.pinned (.plain (OpenSpec.ofChange moneyPartsSpec)) moneyPartsCard

/-- THE TIED CARD OF 'tallysticklaw05.MoneyHolds'. -/
def moneyHoldsCard : Claim7 := { stood := { row := moneyHoldsRow, standIns := [], harness := (true, "267c334e53f252caddf44b2ff21a4dc8651f42cda4d7a6c8b4d1b212fa45ce57"), looks := true }, kinds := [], alts := [], laidByText := true, laidKinds := [.data, .data, .data, .data, .sentinel, .sentinel, .pinned], laidTests := true, laidLooks := .later }
def MoneyHoldsCardSaid : Prop := Claim7.holds Tryd.pinned (.plain (OpenSpec.ofChange moneyHoldsSpec)) moneyHoldsCard

/-- THE SECOND FORM's CARD OF 'tallysticklaw05.MoneySums'. -/
def moneySumsUptoCard : Claim7 := { stood := { row := moneySumsUptoRow, standIns := [], harness := (true, "267c334e53f252caddf44b2ff21a4dc8651f42cda4d7a6c8b4d1b212fa45ce57"), looks := true }, kinds := [], alts := [], laidByText := true, laidKinds := [.data, .data, .data, .data, .sentinel, .sentinel, .pinned], laidTests := true, laidLooks := .later }
def MoneySumsUptoCardSaid : Prop := Claim7.holds Tryd.pinned (.plain (OpenSpec.upto moneySumsSpec)) moneySumsUptoCard

/-- THE SECOND FORM's CARD OF 'tallysticklaw05.MoneyShares'. -/
def moneySharesUptoCard : Claim7 := { stood := { row := moneySharesUptoRow, standIns := [], harness := (true, "267c334e53f252caddf44b2ff21a4dc8651f42cda4d7a6c8b4d1b212fa45ce57"), looks := true }, kinds := [], alts := [], laidByText := true, laidKinds := [.data, .data, .data, .data, .sentinel, .sentinel, .pinned], laidTests := true, laidLooks := .later }
def MoneySharesUptoCardSaid : Prop := Claim7.holds Tryd.pinned (.plain (OpenSpec.upto moneySharesSpec)) moneySharesUptoCard

/-- THE SECOND FORM's CARD OF 'tallysticklaw05.MoneyTexts'. -/
def moneyTextsUptoCard : Claim7 := { stood := { row := moneyTextsUptoRow, standIns := [], harness := (true, "267c334e53f252caddf44b2ff21a4dc8651f42cda4d7a6c8b4d1b212fa45ce57"), looks := true }, kinds := [], alts := [], laidByText := true, laidKinds := [.data, .data, .data, .data, .sentinel, .sentinel, .pinned], laidTests := true, laidLooks := .later }
def MoneyTextsUptoCardSaid : Prop := Claim7.holds Tryd.pinned (.plain (OpenSpec.upto moneyTextsSpec)) moneyTextsUptoCard

/-- THE SECOND FORM's CARD OF 'tallysticklaw05.MoneyMids'. -/
def moneyMidsUptoCard : Claim7 := { stood := { row := moneyMidsUptoRow, standIns := [], harness := (true, "267c334e53f252caddf44b2ff21a4dc8651f42cda4d7a6c8b4d1b212fa45ce57"), looks := true }, kinds := [], alts := [], laidByText := true, laidKinds := [.data, .data, .data, .data, .sentinel, .sentinel, .pinned], laidTests := true, laidLooks := .later }
def MoneyMidsUptoCardSaid : Prop := Claim7.holds Tryd.pinned (.plain (OpenSpec.upto moneyMidsSpec)) moneyMidsUptoCard

/-- THE SECOND FORM's CARD OF 'tallysticklaw05.MoneyParts'. -/
def moneyPartsUptoCard : Claim7 := { stood := { row := moneyPartsUptoRow, standIns := [], harness := (true, "267c334e53f252caddf44b2ff21a4dc8651f42cda4d7a6c8b4d1b212fa45ce57"), looks := true }, kinds := [], alts := [], laidByText := true, laidKinds := [.data, .data, .data, .data, .sentinel, .sentinel, .pinned], laidTests := true, laidLooks := .later }
def MoneyPartsUptoCardSaid : Prop := Claim7.holds Tryd.pinned (.plain (OpenSpec.upto moneyPartsSpec)) moneyPartsUptoCard

/-- THE SECOND FORM's CARD OF 'tallysticklaw05.MoneyHolds'. -/
def moneyHoldsUptoCard : Claim7 := { stood := { row := moneyHoldsUptoRow, standIns := [], harness := (true, "267c334e53f252caddf44b2ff21a4dc8651f42cda4d7a6c8b4d1b212fa45ce57"), looks := true }, kinds := [], alts := [], laidByText := true, laidKinds := [.data, .data, .data, .data, .sentinel, .sentinel, .pinned], laidTests := true, laidLooks := .later }
def MoneyHoldsUptoCardSaid : Prop := Claim7.holds Tryd.pinned (.plain (OpenSpec.upto moneyHoldsSpec)) moneyHoldsUptoCard
end Rows
end Go.Proofs.YtcfhhljjknmniaaDoor
