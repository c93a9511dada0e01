/-
  No cell of these rows narrows 'for every input' (looked for: loops, veiled, ifaces, maps, wideKeys, modest, calm, conditions, laid).
  DERIVED. THE GIVEN ROWS OF THIS SEAT. 5 by the template 'for every input the law returns true; each argument reads behind the call as it read before'; 0 by the template 'total and deterministic' (their statements: YtcajhdmppfiaeaaGreatTotals.lean).
  GIVEN WITH THE SEED: the statements are not yours to turn. If you find one false, say at which input.
  Laid BY PROGRAM, IN A SANDBOX (cutbox-rows.mjs): the forced cells as the released guide's own fill.sh prints them over the translation 3221455589434e34… (all of the seat's roots in one cut). By AI agents, Wed Nov 11 2026. No macro, syntax, notation, axiom, sorry.
-/
import Derived.Test.YtcajhdmppfiaeaaGreatChecked
import GoSem.Claim
import GoSem.ClaimJoined
import GoSem.ClaimMapViews
import Derived.JoinedTies
import Derived.KernelRfl
namespace Go.Proofs.YtcajhdmppfiaeaaGreat
/- THE CELL 'sum', in the pinned program and in every row, IS THE sha256 OF THE DUMP (.gsa) THAT YtcajhdmppfiaeaaGreatProg.lean LOADS. Nothing in Lean hashes anything: it is a label: what it is worth is what the hold of that sum in a sandbox is worth. -/
noncomputable def Tryz.pinned : Pinned := { name := "ytcajhdmppfiaeaagreat", sum := "3221455589434e34e27be5a3322d9bb00aab8fb4797b6776e9ffd00a45b1d770", checked := Tryz.checked }
namespace Rows
def none {H : Type} : Left H := { results := [], args := [] }

/-- 'tallysticklaw11.MsgsBodies': WHATEVER THE INPUT: true; the input reads as it did. -/
def msgsBodiesSpec : ChangeSpec := { name := "msgsBodies", fn := fun _ => fun
  | [d] => { results := [.lit (.bool true)], args := [d] }
  | _ => none }
def msgsBodiesRow : OpenClaim := { program := "ytcajhdmppfiaeaagreat", sum := "3221455589434e34e27be5a3322d9bb00aab8fb4797b6776e9ffd00a45b1d770", func := "tallystick/tallysticklaw11.MsgsBodies", spec := "msgsBodies", unfollowed := true, recurses := true, apart := false }
def MsgsBodiesSaid : Prop := msgsBodiesRow.holds Tryz.pinned (OpenSpec.ofChange msgsBodiesSpec)

/-- ITS FALSE NEIGHBOUR: 'it returns false'. Refute it at one input. -/
def msgsBodiesWrong : ChangeSpec := { name := "msgsBodies", fn := fun _ => fun
  | [d] => { results := [.lit (.bool false)], args := [d] }
  | _ => none }
def MsgsBodiesWrongFalsely : Prop := msgsBodiesRow.holds Tryz.pinned (OpenSpec.ofChange msgsBodiesWrong)

/-- 'tallysticklaw11.MsgsParses': WHATEVER THE INPUT: true; the input reads as it did. -/
def msgsParsesSpec : ChangeSpec := { name := "msgsParses", fn := fun _ => fun
  | [d] => { results := [.lit (.bool true)], args := [d] }
  | _ => none }
def msgsParsesRow : OpenClaim := { program := "ytcajhdmppfiaeaagreat", sum := "3221455589434e34e27be5a3322d9bb00aab8fb4797b6776e9ffd00a45b1d770", func := "tallystick/tallysticklaw11.MsgsParses", spec := "msgsParses", unfollowed := true, recurses := true, apart := false }
def MsgsParsesSaid : Prop := msgsParsesRow.holds Tryz.pinned (OpenSpec.ofChange msgsParsesSpec)

/-- ITS FALSE NEIGHBOUR: 'it returns false'. Refute it at one input. -/
def msgsParsesWrong : ChangeSpec := { name := "msgsParses", fn := fun _ => fun
  | [d] => { results := [.lit (.bool false)], args := [d] }
  | _ => none }
def MsgsParsesWrongFalsely : Prop := msgsParsesRow.holds Tryz.pinned (OpenSpec.ofChange msgsParsesWrong)

/-- 'tallysticklaw11.MsgsBent': WHATEVER THE INPUT: true; the input reads as it did. -/
def msgsBentSpec : ChangeSpec := { name := "msgsBent", fn := fun _ => fun
  | [d1, d2, d3, d4] => { results := [.lit (.bool true)], args := [d1, d2, d3, d4] }
  | _ => none }
def msgsBentRow : OpenClaim := { program := "ytcajhdmppfiaeaagreat", sum := "3221455589434e34e27be5a3322d9bb00aab8fb4797b6776e9ffd00a45b1d770", func := "tallystick/tallysticklaw11.MsgsBent", spec := "msgsBent", unfollowed := true, recurses := true, apart := false }
def MsgsBentSaid : Prop := msgsBentRow.holds Tryz.pinned (OpenSpec.ofChange msgsBentSpec)

/-- ITS FALSE NEIGHBOUR: 'it returns false'. Refute it at one input. -/
def msgsBentWrong : ChangeSpec := { name := "msgsBent", fn := fun _ => fun
  | [d1, d2, d3, d4] => { results := [.lit (.bool false)], args := [d1, d2, d3, d4] }
  | _ => none }
def MsgsBentWrongFalsely : Prop := msgsBentRow.holds Tryz.pinned (OpenSpec.ofChange msgsBentWrong)

/-- 'tallysticklaw11.MsgsBack': WHATEVER THE INPUT: true; the input reads as it did. -/
def msgsBackSpec : ChangeSpec := { name := "msgsBack", fn := fun _ => fun
  | [d1, d2, d3] => { results := [.lit (.bool true)], args := [d1, d2, d3] }
  | _ => none }
def msgsBackRow : OpenClaim := { program := "ytcajhdmppfiaeaagreat", sum := "3221455589434e34e27be5a3322d9bb00aab8fb4797b6776e9ffd00a45b1d770", func := "tallystick/tallysticklaw11.MsgsBack", spec := "msgsBack", unfollowed := true, recurses := true, apart := false }
def MsgsBackSaid : Prop := msgsBackRow.holds Tryz.pinned (OpenSpec.ofChange msgsBackSpec)

/-- ITS FALSE NEIGHBOUR: 'it returns false'. Refute it at one input. -/
def msgsBackWrong : ChangeSpec := { name := "msgsBack", fn := fun _ => fun
  | [d1, d2, d3] => { results := [.lit (.bool false)], args := [d1, d2, d3] }
  | _ => none }
def MsgsBackWrongFalsely : Prop := msgsBackRow.holds Tryz.pinned (OpenSpec.ofChange msgsBackWrong)

/-- 'tallysticklaw11.MsgsReads': WHATEVER THE INPUT: true; the input reads as it did. -/
def msgsReadsSpec : ChangeSpec := { name := "msgsReads", fn := fun _ => fun
  | [d1, d2, d3] => { results := [.lit (.bool true)], args := [d1, d2, d3] }
  | _ => none }
def msgsReadsRow : OpenClaim := { program := "ytcajhdmppfiaeaagreat", sum := "3221455589434e34e27be5a3322d9bb00aab8fb4797b6776e9ffd00a45b1d770", func := "tallystick/tallysticklaw11.MsgsReads", spec := "msgsReads", unfollowed := true, recurses := true, apart := false }
def MsgsReadsSaid : Prop := msgsReadsRow.holds Tryz.pinned (OpenSpec.ofChange msgsReadsSpec)

/-- ITS FALSE NEIGHBOUR: 'it returns false'. Refute it at one input. -/
def msgsReadsWrong : ChangeSpec := { name := "msgsReads", fn := fun _ => fun
  | [d1, d2, d3] => { results := [.lit (.bool false)], args := [d1, d2, d3] }
  | _ => none }
def MsgsReadsWrongFalsely : Prop := msgsReadsRow.holds Tryz.pinned (OpenSpec.ofChange msgsReadsWrong)

/- THE SECOND FORM. 'bulk': how many values and letters a reading holds, each counted each time it is reached (what is shared counts as often as it is met; a slice's spare places count too). A statement '..UptoSaid' is the law's where the arguments, and the package variables that the reading takes, are together of bulk at most 1048576: NARROWER than '..Said'. Prove '..Said' where nothing that the law and all that it calls make is longer than what came in: it says more and counts as full. Else prove '..UptoSaid'. A law counts once. -/
mutual
def uptoBulk {H : Type} : DataW H → Nat
  | .lit (.string bytes) => bytes.length + 1
  | .lit _ => 1
  | .nil => 1
  | .ptr d => uptoBulk d + 1
  | .slice elems spare => uptoBulkAll elems + uptoBulkAll spare + 1
  | .agg parts => uptoBulkAll parts + 1
  | .iface _ d => uptoBulk d + 1
  | .map entries => uptoBulkEntries entries + 1
  | .held _ => 1
def uptoBulkAll {H : Type} : List (DataW H) → Nat
  | [] => 0
  | d :: r => uptoBulk d + uptoBulkAll r
def uptoBulkEntries {H : Type} : List (Lit × DataW H) → Nat
  | [] => 0
  | x :: r => uptoBulkEntry x + uptoBulkEntries r
def uptoBulkEntry {H : Type} : Lit × DataW H → Nat
  | (.string bytes, d) => bytes.length + uptoBulk d + 1
  | (_, d) => uptoBulk d + 1
 end
def uptoSmall : (H : Type) → List (DataW H) → Bool := fun _ ds => decide (uptoBulkAll ds ≤ 1048576)
def OpenSpec.upto (s : _root_.Go.ChangeSpec) : _root_.Go.OpenSpec := { _root_.Go.OpenSpec.ofChange s with cond := some uptoSmall }

/-- 'tallysticklaw11.MsgsBodies', WHERE WHAT IT READS IS OF BULK AT MOST 1048576: true; the input reads as it did. -/
def msgsBodiesUptoRow : OpenClaim := { program := "ytcajhdmppfiaeaagreat", sum := "3221455589434e34e27be5a3322d9bb00aab8fb4797b6776e9ffd00a45b1d770", func := "tallystick/tallysticklaw11.MsgsBodies", spec := "msgsBodies", unfollowed := true, recurses := true, apart := false, narrowed := true }
def MsgsBodiesUptoSaid : Prop := msgsBodiesUptoRow.holds Tryz.pinned (OpenSpec.upto msgsBodiesSpec)

/-- 'tallysticklaw11.MsgsParses', WHERE WHAT IT READS IS OF BULK AT MOST 1048576: true; the input reads as it did. -/
def msgsParsesUptoRow : OpenClaim := { program := "ytcajhdmppfiaeaagreat", sum := "3221455589434e34e27be5a3322d9bb00aab8fb4797b6776e9ffd00a45b1d770", func := "tallystick/tallysticklaw11.MsgsParses", spec := "msgsParses", unfollowed := true, recurses := true, apart := false, narrowed := true }
def MsgsParsesUptoSaid : Prop := msgsParsesUptoRow.holds Tryz.pinned (OpenSpec.upto msgsParsesSpec)

/-- 'tallysticklaw11.MsgsBent', WHERE WHAT IT READS IS OF BULK AT MOST 1048576: true; the input reads as it did. -/
def msgsBentUptoRow : OpenClaim := { program := "ytcajhdmppfiaeaagreat", sum := "3221455589434e34e27be5a3322d9bb00aab8fb4797b6776e9ffd00a45b1d770", func := "tallystick/tallysticklaw11.MsgsBent", spec := "msgsBent", unfollowed := true, recurses := true, apart := false, narrowed := true }
def MsgsBentUptoSaid : Prop := msgsBentUptoRow.holds Tryz.pinned (OpenSpec.upto msgsBentSpec)

/-- 'tallysticklaw11.MsgsBack', WHERE WHAT IT READS IS OF BULK AT MOST 1048576: true; the input reads as it did. -/
def msgsBackUptoRow : OpenClaim := { program := "ytcajhdmppfiaeaagreat", sum := "3221455589434e34e27be5a3322d9bb00aab8fb4797b6776e9ffd00a45b1d770", func := "tallystick/tallysticklaw11.MsgsBack", spec := "msgsBack", unfollowed := true, recurses := true, apart := false, narrowed := true }
def MsgsBackUptoSaid : Prop := msgsBackUptoRow.holds Tryz.pinned (OpenSpec.upto msgsBackSpec)

/-- 'tallysticklaw11.MsgsReads', WHERE WHAT IT READS IS OF BULK AT MOST 1048576: true; the input reads as it did. -/
def msgsReadsUptoRow : OpenClaim := { program := "ytcajhdmppfiaeaagreat", sum := "3221455589434e34e27be5a3322d9bb00aab8fb4797b6776e9ffd00a45b1d770", func := "tallystick/tallysticklaw11.MsgsReads", spec := "msgsReads", unfollowed := true, recurses := true, apart := false, narrowed := true }
def MsgsReadsUptoSaid : Prop := msgsReadsUptoRow.holds Tryz.pinned (OpenSpec.upto msgsReadsSpec)

end Rows
end Go.Proofs.YtcajhdmppfiaeaaGreat
