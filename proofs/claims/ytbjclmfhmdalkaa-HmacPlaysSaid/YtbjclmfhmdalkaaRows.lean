/-
  No cell of these rows narrows 'for every input' (looked for: loops, veiled, ifaces, maps, wideKeys, modest, calm, conditions, laid).
  DERIVED. THE GIVEN ROWS OF THIS SEAT. 6 by the template 'for every input the law returns true; each argument reads behind the call as it read before'; 0 by the template 'total and deterministic' (their statements: YtbjclmfhmdalkaaTotals.lean).
  GIVEN WITH THE SEED: the statements are not yours to turn. If you find one false, say at which input.
  Laid BY PROGRAM, IN A SANDBOX (cutbox-rows.mjs): the forced cells as the released guide's own fill.sh prints them over the translation e45f589013b9f081… (all of the seat's roots in one cut). By AI agents, Wed Nov 11 2026. No macro, syntax, notation, axiom, sorry.
-/
import Derived.Test.YtbjclmfhmdalkaaChecked
import GoSem.Claim
import GoSem.ClaimJoined
import GoSem.ClaimMapViews
import Derived.JoinedTies
import Derived.KernelRfl
namespace Go.Proofs.Ytbjclmfhmdalkaa
/- THE CELL 'sum', in the pinned program and in every row, IS THE sha256 OF THE DUMP (.gsa) THAT YtbjclmfhmdalkaaProg.lean LOADS. Nothing in Lean hashes anything: it is a label: what it is worth is what the hold of that sum in a sandbox is worth. -/
noncomputable def Try.pinned : Pinned := { name := "ytbjclmfhmdalkaa", sum := "e45f589013b9f081ee6aaf30716acd7aaa55f8e6aeba5e93ba6997998f7fea1b", checked := Try.checked }
namespace Rows
def none {H : Type} : Left H := { results := [], args := [] }

/-- 'tallysticklaw02.HmacRights': WHATEVER THE INPUT: true; the input reads as it did. -/
def hmacRightsSpec : ChangeSpec := { name := "hmacRights", fn := fun _ => fun
  | [d1, d2, d3, d4, d5] => { results := [.lit (.bool true)], args := [d1, d2, d3, d4, d5] }
  | _ => none }
def hmacRightsRow : OpenClaim := { program := "ytbjclmfhmdalkaa", sum := "e45f589013b9f081ee6aaf30716acd7aaa55f8e6aeba5e93ba6997998f7fea1b", func := "tallystick/tallysticklaw02.HmacRights", spec := "hmacRights", unfollowed := true, recurses := true, apart := false }
def HmacRightsSaid : Prop := hmacRightsRow.holds Try.pinned (OpenSpec.ofChange hmacRightsSpec)

/-- ITS FALSE NEIGHBOUR: 'it returns false'. Refute it at one input. -/
def hmacRightsWrong : ChangeSpec := { name := "hmacRights", fn := fun _ => fun
  | [d1, d2, d3, d4, d5] => { results := [.lit (.bool false)], args := [d1, d2, d3, d4, d5] }
  | _ => none }
def HmacRightsWrongFalsely : Prop := hmacRightsRow.holds Try.pinned (OpenSpec.ofChange hmacRightsWrong)

/-- 'tallysticklaw02.HmacExpands': WHATEVER THE INPUT: true; the input reads as it did. -/
def hmacExpandsSpec : ChangeSpec := { name := "hmacExpands", fn := fun _ => fun
  | [d1, d2, d3] => { results := [.lit (.bool true)], args := [d1, d2, d3] }
  | _ => none }
def hmacExpandsRow : OpenClaim := { program := "ytbjclmfhmdalkaa", sum := "e45f589013b9f081ee6aaf30716acd7aaa55f8e6aeba5e93ba6997998f7fea1b", func := "tallystick/tallysticklaw02.HmacExpands", spec := "hmacExpands", unfollowed := true, recurses := true, apart := false }
def HmacExpandsSaid : Prop := hmacExpandsRow.holds Try.pinned (OpenSpec.ofChange hmacExpandsSpec)

/-- ITS FALSE NEIGHBOUR: 'it returns false'. Refute it at one input. -/
def hmacExpandsWrong : ChangeSpec := { name := "hmacExpands", fn := fun _ => fun
  | [d1, d2, d3] => { results := [.lit (.bool false)], args := [d1, d2, d3] }
  | _ => none }
def HmacExpandsWrongFalsely : Prop := hmacExpandsRow.holds Try.pinned (OpenSpec.ofChange hmacExpandsWrong)

/-- 'tallysticklaw02.HmacChildren': WHATEVER THE INPUT: true; the input reads as it did. -/
def hmacChildrenSpec : ChangeSpec := { name := "hmacChildren", fn := fun _ => fun
  | [d1, d2] => { results := [.lit (.bool true)], args := [d1, d2] }
  | _ => none }
def hmacChildrenRow : OpenClaim := { program := "ytbjclmfhmdalkaa", sum := "e45f589013b9f081ee6aaf30716acd7aaa55f8e6aeba5e93ba6997998f7fea1b", func := "tallystick/tallysticklaw02.HmacChildren", spec := "hmacChildren", unfollowed := true, recurses := true, apart := false }
def HmacChildrenSaid : Prop := hmacChildrenRow.holds Try.pinned (OpenSpec.ofChange hmacChildrenSpec)

/-- ITS FALSE NEIGHBOUR: 'it returns false'. Refute it at one input. -/
def hmacChildrenWrong : ChangeSpec := { name := "hmacChildren", fn := fun _ => fun
  | [d1, d2] => { results := [.lit (.bool false)], args := [d1, d2] }
  | _ => none }
def HmacChildrenWrongFalsely : Prop := hmacChildrenRow.holds Try.pinned (OpenSpec.ofChange hmacChildrenWrong)

/-- 'tallysticklaw02.HmacHolds': WHATEVER THE INPUT: true; the input reads as it did. -/
def hmacHoldsSpec : ChangeSpec := { name := "hmacHolds", fn := fun _ => fun
  | [d1, d2, d3, d4, d5, d6, d7, d8] => { results := [.lit (.bool true)], args := [d1, d2, d3, d4, d5, d6, d7, d8] }
  | _ => none }
def hmacHoldsRow : OpenClaim := { program := "ytbjclmfhmdalkaa", sum := "e45f589013b9f081ee6aaf30716acd7aaa55f8e6aeba5e93ba6997998f7fea1b", func := "tallystick/tallysticklaw02.HmacHolds", spec := "hmacHolds", unfollowed := true, recurses := true, apart := false }
def HmacHoldsSaid : Prop := hmacHoldsRow.holds Try.pinned (OpenSpec.ofChange hmacHoldsSpec)

/-- ITS FALSE NEIGHBOUR: 'it returns false'. Refute it at one input. -/
def hmacHoldsWrong : ChangeSpec := { name := "hmacHolds", fn := fun _ => fun
  | [d1, d2, d3, d4, d5, d6, d7, d8] => { results := [.lit (.bool false)], args := [d1, d2, d3, d4, d5, d6, d7, d8] }
  | _ => none }
def HmacHoldsWrongFalsely : Prop := hmacHoldsRow.holds Try.pinned (OpenSpec.ofChange hmacHoldsWrong)

/-- 'tallysticklaw02.HmacTags': WHATEVER THE INPUT: true; the input reads as it did. -/
def hmacTagsSpec : ChangeSpec := { name := "hmacTags", fn := fun _ => fun
  | [d1, d2] => { results := [.lit (.bool true)], args := [d1, d2] }
  | _ => none }
def hmacTagsRow : OpenClaim := { program := "ytbjclmfhmdalkaa", sum := "e45f589013b9f081ee6aaf30716acd7aaa55f8e6aeba5e93ba6997998f7fea1b", func := "tallystick/tallysticklaw02.HmacTags", spec := "hmacTags", unfollowed := true, recurses := true, apart := false }
def HmacTagsSaid : Prop := hmacTagsRow.holds Try.pinned (OpenSpec.ofChange hmacTagsSpec)

/-- ITS FALSE NEIGHBOUR: 'it returns false'. Refute it at one input. -/
def hmacTagsWrong : ChangeSpec := { name := "hmacTags", fn := fun _ => fun
  | [d1, d2] => { results := [.lit (.bool false)], args := [d1, d2] }
  | _ => none }
def HmacTagsWrongFalsely : Prop := hmacTagsRow.holds Try.pinned (OpenSpec.ofChange hmacTagsWrong)

/-- 'tallysticklaw02.HmacPlays': WHATEVER THE INPUT: true; the input reads as it did. -/
def hmacPlaysSpec : ChangeSpec := { name := "hmacPlays", fn := fun _ => fun
  | [d1, d2, d3] => { results := [.lit (.bool true)], args := [d1, d2, d3] }
  | _ => none }
def hmacPlaysRow : OpenClaim := { program := "ytbjclmfhmdalkaa", sum := "e45f589013b9f081ee6aaf30716acd7aaa55f8e6aeba5e93ba6997998f7fea1b", func := "tallystick/tallysticklaw02.HmacPlays", spec := "hmacPlays", unfollowed := true, recurses := true, apart := false }
def HmacPlaysSaid : Prop := hmacPlaysRow.holds Try.pinned (OpenSpec.ofChange hmacPlaysSpec)

/-- ITS FALSE NEIGHBOUR: 'it returns false'. Refute it at one input. -/
def hmacPlaysWrong : ChangeSpec := { name := "hmacPlays", fn := fun _ => fun
  | [d1, d2, d3] => { results := [.lit (.bool false)], args := [d1, d2, d3] }
  | _ => none }
def HmacPlaysWrongFalsely : Prop := hmacPlaysRow.holds Try.pinned (OpenSpec.ofChange hmacPlaysWrong)

/- THE SECOND FORM. 'bulk': how many values and letters a reading holds, each counted each time it is reached (what is shared counts as often as it is met; a slice's spare places count too). A statement '..UptoSaid' is the law's where the arguments, and the package variables that the reading takes, are together of bulk at most 1048576: NARROWER than '..Said'. Prove '..Said' where nothing that the law and all that it calls make is longer than what came in: it says more and counts as full. Else prove '..UptoSaid'. A law counts once. -/
mutual
def uptoBulk {H : Type} : DataW H → Nat
  | .lit (.string bytes) => bytes.length + 1
  | .lit _ => 1
  | .nil => 1
  | .ptr d => uptoBulk d + 1
  | .slice elems spare => uptoBulkAll elems + uptoBulkAll spare + 1
  | .agg parts => uptoBulkAll parts + 1
  | .iface _ d => uptoBulk d + 1
  | .map entries => uptoBulkEntries entries + 1
  | .held _ => 1
def uptoBulkAll {H : Type} : List (DataW H) → Nat
  | [] => 0
  | d :: r => uptoBulk d + uptoBulkAll r
def uptoBulkEntries {H : Type} : List (Lit × DataW H) → Nat
  | [] => 0
  | x :: r => uptoBulkEntry x + uptoBulkEntries r
def uptoBulkEntry {H : Type} : Lit × DataW H → Nat
  | (.string bytes, d) => bytes.length + uptoBulk d + 1
  | (_, d) => uptoBulk d + 1
 end
def uptoSmall : (H : Type) → List (DataW H) → Bool := fun _ ds => decide (uptoBulkAll ds ≤ 1048576)
def OpenSpec.upto (s : _root_.Go.ChangeSpec) : _root_.Go.OpenSpec := { _root_.Go.OpenSpec.ofChange s with cond := some uptoSmall }

/-- 'tallysticklaw02.HmacRights', WHERE WHAT IT READS IS OF BULK AT MOST 1048576: true; the input reads as it did. -/
def hmacRightsUptoRow : OpenClaim := { program := "ytbjclmfhmdalkaa", sum := "e45f589013b9f081ee6aaf30716acd7aaa55f8e6aeba5e93ba6997998f7fea1b", func := "tallystick/tallysticklaw02.HmacRights", spec := "hmacRights", unfollowed := true, recurses := true, apart := false, narrowed := true }
def HmacRightsUptoSaid : Prop := hmacRightsUptoRow.holds Try.pinned (OpenSpec.upto hmacRightsSpec)

/-- 'tallysticklaw02.HmacExpands', WHERE WHAT IT READS IS OF BULK AT MOST 1048576: true; the input reads as it did. -/
def hmacExpandsUptoRow : OpenClaim := { program := "ytbjclmfhmdalkaa", sum := "e45f589013b9f081ee6aaf30716acd7aaa55f8e6aeba5e93ba6997998f7fea1b", func := "tallystick/tallysticklaw02.HmacExpands", spec := "hmacExpands", unfollowed := true, recurses := true, apart := false, narrowed := true }
def HmacExpandsUptoSaid : Prop := hmacExpandsUptoRow.holds Try.pinned (OpenSpec.upto hmacExpandsSpec)

/-- 'tallysticklaw02.HmacChildren', WHERE WHAT IT READS IS OF BULK AT MOST 1048576: true; the input reads as it did. -/
def hmacChildrenUptoRow : OpenClaim := { program := "ytbjclmfhmdalkaa", sum := "e45f589013b9f081ee6aaf30716acd7aaa55f8e6aeba5e93ba6997998f7fea1b", func := "tallystick/tallysticklaw02.HmacChildren", spec := "hmacChildren", unfollowed := true, recurses := true, apart := false, narrowed := true }
def HmacChildrenUptoSaid : Prop := hmacChildrenUptoRow.holds Try.pinned (OpenSpec.upto hmacChildrenSpec)

/-- 'tallysticklaw02.HmacHolds', WHERE WHAT IT READS IS OF BULK AT MOST 1048576: true; the input reads as it did. -/
def hmacHoldsUptoRow : OpenClaim := { program := "ytbjclmfhmdalkaa", sum := "e45f589013b9f081ee6aaf30716acd7aaa55f8e6aeba5e93ba6997998f7fea1b", func := "tallystick/tallysticklaw02.HmacHolds", spec := "hmacHolds", unfollowed := true, recurses := true, apart := false, narrowed := true }
def HmacHoldsUptoSaid : Prop := hmacHoldsUptoRow.holds Try.pinned (OpenSpec.upto hmacHoldsSpec)

/-- 'tallysticklaw02.HmacTags', WHERE WHAT IT READS IS OF BULK AT MOST 1048576: true; the input reads as it did. -/
def hmacTagsUptoRow : OpenClaim := { program := "ytbjclmfhmdalkaa", sum := "e45f589013b9f081ee6aaf30716acd7aaa55f8e6aeba5e93ba6997998f7fea1b", func := "tallystick/tallysticklaw02.HmacTags", spec := "hmacTags", unfollowed := true, recurses := true, apart := false, narrowed := true }
def HmacTagsUptoSaid : Prop := hmacTagsUptoRow.holds Try.pinned (OpenSpec.upto hmacTagsSpec)

/-- 'tallysticklaw02.HmacPlays', WHERE WHAT IT READS IS OF BULK AT MOST 1048576: true; the input reads as it did. -/
def hmacPlaysUptoRow : OpenClaim := { program := "ytbjclmfhmdalkaa", sum := "e45f589013b9f081ee6aaf30716acd7aaa55f8e6aeba5e93ba6997998f7fea1b", func := "tallystick/tallysticklaw02.HmacPlays", spec := "hmacPlays", unfollowed := true, recurses := true, apart := false, narrowed := true }
def HmacPlaysUptoSaid : Prop := hmacPlaysUptoRow.holds Try.pinned (OpenSpec.upto hmacPlaysSpec)

end Rows
end Go.Proofs.Ytbjclmfhmdalkaa
