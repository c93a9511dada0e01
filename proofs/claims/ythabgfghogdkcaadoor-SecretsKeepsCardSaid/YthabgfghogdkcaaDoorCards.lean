/-
  DERIVED. GIVEN WITH THE SEED: THE CARDS: each row of YthabgfghogdkcaaDoorRows.lean that lists a variable, with what it lists TIED to the program's text (the seventh form; the later family's looks); each row that meets fmt, with fmt's text TOLD by the authors' own Lean function (tested against real Go, not proved from fmt's source: count such statements apart). THE CARD IS WHAT COUNTS. Prove the row's statement (the work); the ties are given (YthabgfghogdkcaaDoorTie.lean); close each card by the builder's one call (the guide's Derived/Test/ToyasCard.lean, 'card_holds'). Laid BY PROGRAM, IN A SANDBOX (cutbox-door.mjs). By AI agents, Wed Nov 11 2026. No macro, syntax, notation, axiom, sorry.
-/
import Derived.Test.YthabgfghogdkcaaDoorRows
import GoSem.ClaimSeven
namespace Go.Proofs.YthabgfghogdkcaaDoor
namespace Rows

/-- THE TIED CARD OF 'tallysticklaw06.SecretsDown'. -/
def secretsDownCard : Claim7 := { stood := { row := secretsDownRow, standIns := [], harness := (true, "9dc3314f74714a3415dd6086aaaf1a1223c179d29413be982140a12909647dff"), looks := true }, kinds := [], alts := [], laidByText := true, laidKinds := [.data], laidTests := true, laidLooks := .later }
def SecretsDownCardSaid : Prop := Claim7.holds Tryd.pinned (.plain (OpenSpec.ofChange secretsDownSpec)) secretsDownCard

/-- THE TIED CARD OF 'tallysticklaw06.SecretsGets'. -/
def secretsGetsCard : Claim7 := { stood := { row := secretsGetsRow, standIns := [], harness := (true, "9dc3314f74714a3415dd6086aaaf1a1223c179d29413be982140a12909647dff"), looks := true }, kinds := [], alts := [], laidByText := true, laidKinds := [.data], laidTests := true, laidLooks := .later }
def SecretsGetsCardSaid : Prop := Claim7.holds Tryd.pinned (.plain (OpenSpec.ofChange secretsGetsSpec)) secretsGetsCard

/-- THE TIED CARD OF 'tallysticklaw06.SecretsSeeds'. -/
def secretsSeedsCard : Claim7 := { stood := { row := secretsSeedsRow, standIns := [], harness := (true, "9dc3314f74714a3415dd6086aaaf1a1223c179d29413be982140a12909647dff"), looks := true }, kinds := [], alts := [], laidByText := true, laidKinds := [.data], laidTests := true, laidLooks := .later }
def SecretsSeedsCardSaid : Prop := Claim7.holds Tryd.pinned (.plain (OpenSpec.ofChange secretsSeedsSpec)) secretsSeedsCard

/-- THE TIED CARD OF 'tallysticklaw06.SecretsKeeps'. -/
def secretsKeepsCard : Claim7 := { stood := { row := secretsKeepsRow, standIns := [], harness := (true, "9dc3314f74714a3415dd6086aaaf1a1223c179d29413be982140a12909647dff"), looks := true }, kinds := [], alts := [], laidByText := true, laidKinds := [.data], laidTests := true, laidLooks := .later }
def SecretsKeepsCardSaid : Prop := Claim7.holds Tryd.pinned (.plain (OpenSpec.ofChange secretsKeepsSpec)) secretsKeepsCard

/-- THE SECOND FORM's CARD OF 'tallysticklaw06.SecretsDown'. -/
def secretsDownUptoCard : Claim7 := { stood := { row := secretsDownUptoRow, standIns := [], harness := (true, "9dc3314f74714a3415dd6086aaaf1a1223c179d29413be982140a12909647dff"), looks := true }, kinds := [], alts := [], laidByText := true, laidKinds := [.data], laidTests := true, laidLooks := .later }
def SecretsDownUptoCardSaid : Prop := Claim7.holds Tryd.pinned (.plain (OpenSpec.upto secretsDownSpec)) secretsDownUptoCard

/-- THE SECOND FORM's CARD OF 'tallysticklaw06.SecretsGets'. -/
def secretsGetsUptoCard : Claim7 := { stood := { row := secretsGetsUptoRow, standIns := [], harness := (true, "9dc3314f74714a3415dd6086aaaf1a1223c179d29413be982140a12909647dff"), looks := true }, kinds := [], alts := [], laidByText := true, laidKinds := [.data], laidTests := true, laidLooks := .later }
def SecretsGetsUptoCardSaid : Prop := Claim7.holds Tryd.pinned (.plain (OpenSpec.upto secretsGetsSpec)) secretsGetsUptoCard

/-- THE SECOND FORM's CARD OF 'tallysticklaw06.SecretsSeeds'. -/
def secretsSeedsUptoCard : Claim7 := { stood := { row := secretsSeedsUptoRow, standIns := [], harness := (true, "9dc3314f74714a3415dd6086aaaf1a1223c179d29413be982140a12909647dff"), looks := true }, kinds := [], alts := [], laidByText := true, laidKinds := [.data], laidTests := true, laidLooks := .later }
def SecretsSeedsUptoCardSaid : Prop := Claim7.holds Tryd.pinned (.plain (OpenSpec.upto secretsSeedsSpec)) secretsSeedsUptoCard

/-- THE SECOND FORM's CARD OF 'tallysticklaw06.SecretsKeeps'. -/
def secretsKeepsUptoCard : Claim7 := { stood := { row := secretsKeepsUptoRow, standIns := [], harness := (true, "9dc3314f74714a3415dd6086aaaf1a1223c179d29413be982140a12909647dff"), looks := true }, kinds := [], alts := [], laidByText := true, laidKinds := [.data], laidTests := true, laidLooks := .later }
def SecretsKeepsUptoCardSaid : Prop := Claim7.holds Tryd.pinned (.plain (OpenSpec.upto secretsKeepsSpec)) secretsKeepsUptoCard
end Rows
end Go.Proofs.YthabgfghogdkcaaDoor
