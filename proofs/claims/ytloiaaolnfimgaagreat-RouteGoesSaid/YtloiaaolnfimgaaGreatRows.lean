/-
  No cell of these rows narrows 'for every input' (looked for: loops, veiled, ifaces, maps, wideKeys, modest, calm, conditions, laid).
  DERIVED. THE GIVEN ROWS OF THIS SEAT. 5 by the template 'for every input the law returns true; each argument reads behind the call as it read before'; 0 by the template 'total and deterministic' (their statements: YtloiaaolnfimgaaGreatTotals.lean).
  GIVEN WITH THE SEED: the statements are not yours to turn. If you find one false, say at which input.
  Laid BY PROGRAM, IN A SANDBOX (cutbox-rows.mjs): the forced cells as the released guide's own fill.sh prints them over the translation 1fea99241878f8ed… (all of the seat's roots in one cut). By AI agents, Wed Nov 11 2026. No macro, syntax, notation, axiom, sorry.
-/
import Derived.Test.YtloiaaolnfimgaaGreatChecked
import GoSem.Claim
import GoSem.ClaimJoined
import GoSem.ClaimMapViews
import Derived.JoinedTies
import Derived.KernelRfl
namespace Go.Proofs.YtloiaaolnfimgaaGreat
/- THE CELL 'sum', in the pinned program and in every row, IS THE sha256 OF THE DUMP (.gsa) THAT YtloiaaolnfimgaaGreatProg.lean LOADS. Nothing in Lean hashes anything: it is a label: what it is worth is what the hold of that sum in a sandbox is worth. -/
noncomputable def Tryz.pinned : Pinned := { name := "ytloiaaolnfimgaagreat", sum := "1fea99241878f8edd750992bfe6d4932201110135dbec0cfb19f15e991f4862a", checked := Tryz.checked }
namespace Rows
def none {H : Type} : Left H := { results := [], args := [] }

/-- 'tallysticklaw25.RouteWraps': WHATEVER THE INPUT: true; the input reads as it did. -/
def routeWrapsSpec : ChangeSpec := { name := "routeWraps", fn := fun _ => fun
  | [d] => { results := [.lit (.bool true)], args := [d] }
  | _ => none }
def routeWrapsRow : OpenClaim := { program := "ytloiaaolnfimgaagreat", sum := "1fea99241878f8edd750992bfe6d4932201110135dbec0cfb19f15e991f4862a", func := "tallystick/tallysticklaw25.RouteWraps", spec := "routeWraps", inPlace := ["internal/abi.NoEscape", "internal/bytealg.MakeNoZero", "internal/bytealg.IndexByteString"], unfollowed := true, recurses := true, named := ["math/bits.divideError", "math/bits.overflowError"], apart := false }
def RouteWrapsSaid : Prop := routeWrapsRow.holds Tryz.pinned (OpenSpec.ofChange routeWrapsSpec)

/-- ITS FALSE NEIGHBOUR: 'it returns false'. Refute it at one input. -/
def routeWrapsWrong : ChangeSpec := { name := "routeWraps", fn := fun _ => fun
  | [d] => { results := [.lit (.bool false)], args := [d] }
  | _ => none }
def RouteWrapsWrongFalsely : Prop := routeWrapsRow.holds Tryz.pinned (OpenSpec.ofChange routeWrapsWrong)

/-- 'tallysticklaw25.RoutePeels': WHATEVER THE INPUT: true; the input reads as it did. -/
def routePeelsSpec : ChangeSpec := { name := "routePeels", fn := fun _ => fun
  | [d1, d2] => { results := [.lit (.bool true)], args := [d1, d2] }
  | _ => none }
def routePeelsRow : OpenClaim := { program := "ytloiaaolnfimgaagreat", sum := "1fea99241878f8edd750992bfe6d4932201110135dbec0cfb19f15e991f4862a", func := "tallystick/tallysticklaw25.RoutePeels", spec := "routePeels", inPlace := ["internal/abi.NoEscape", "internal/bytealg.MakeNoZero", "internal/bytealg.IndexByteString"], unfollowed := true, recurses := true, named := ["math/bits.divideError", "math/bits.overflowError"], apart := false }
def RoutePeelsSaid : Prop := routePeelsRow.holds Tryz.pinned (OpenSpec.ofChange routePeelsSpec)

/-- ITS FALSE NEIGHBOUR: 'it returns false'. Refute it at one input. -/
def routePeelsWrong : ChangeSpec := { name := "routePeels", fn := fun _ => fun
  | [d1, d2] => { results := [.lit (.bool false)], args := [d1, d2] }
  | _ => none }
def RoutePeelsWrongFalsely : Prop := routePeelsRow.holds Tryz.pinned (OpenSpec.ofChange routePeelsWrong)

/-- 'tallysticklaw25.RoutePlans': WHATEVER THE INPUT: true; the input reads as it did. -/
def routePlansSpec : ChangeSpec := { name := "routePlans", fn := fun _ => fun
  | [d1, d2, d3] => { results := [.lit (.bool true)], args := [d1, d2, d3] }
  | _ => none }
def routePlansRow : OpenClaim := { program := "ytloiaaolnfimgaagreat", sum := "1fea99241878f8edd750992bfe6d4932201110135dbec0cfb19f15e991f4862a", func := "tallystick/tallysticklaw25.RoutePlans", spec := "routePlans", inPlace := ["internal/abi.NoEscape", "internal/bytealg.MakeNoZero", "internal/bytealg.IndexByteString"], unfollowed := true, recurses := true, named := ["math/bits.divideError", "math/bits.overflowError"], apart := false }
def RoutePlansSaid : Prop := routePlansRow.holds Tryz.pinned (OpenSpec.ofChange routePlansSpec)

/-- ITS FALSE NEIGHBOUR: 'it returns false'. Refute it at one input. -/
def routePlansWrong : ChangeSpec := { name := "routePlans", fn := fun _ => fun
  | [d1, d2, d3] => { results := [.lit (.bool false)], args := [d1, d2, d3] }
  | _ => none }
def RoutePlansWrongFalsely : Prop := routePlansRow.holds Tryz.pinned (OpenSpec.ofChange routePlansWrong)

/-- 'tallysticklaw25.RouteTexts': WHATEVER THE INPUT: true; the input reads as it did. -/
def routeTextsSpec : ChangeSpec := { name := "routeTexts", fn := fun _ => fun
  | [d1, d2] => { results := [.lit (.bool true)], args := [d1, d2] }
  | _ => none }
def routeTextsRow : OpenClaim := { program := "ytloiaaolnfimgaagreat", sum := "1fea99241878f8edd750992bfe6d4932201110135dbec0cfb19f15e991f4862a", func := "tallystick/tallysticklaw25.RouteTexts", spec := "routeTexts", inPlace := ["internal/abi.NoEscape", "internal/bytealg.MakeNoZero", "internal/bytealg.IndexByteString"], unfollowed := true, recurses := true, named := ["math/bits.divideError", "math/bits.overflowError"], apart := false }
def RouteTextsSaid : Prop := routeTextsRow.holds Tryz.pinned (OpenSpec.ofChange routeTextsSpec)

/-- ITS FALSE NEIGHBOUR: 'it returns false'. Refute it at one input. -/
def routeTextsWrong : ChangeSpec := { name := "routeTexts", fn := fun _ => fun
  | [d1, d2] => { results := [.lit (.bool false)], args := [d1, d2] }
  | _ => none }
def RouteTextsWrongFalsely : Prop := routeTextsRow.holds Tryz.pinned (OpenSpec.ofChange routeTextsWrong)

/-- 'tallysticklaw25.RouteGoes': WHATEVER THE INPUT: true; the input reads as it did. -/
def routeGoesSpec : ChangeSpec := { name := "routeGoes", fn := fun _ => fun
  | [d1, d2, d3, d4] => { results := [.lit (.bool true)], args := [d1, d2, d3, d4] }
  | _ => none }
def routeGoesRow : OpenClaim := { program := "ytloiaaolnfimgaagreat", sum := "1fea99241878f8edd750992bfe6d4932201110135dbec0cfb19f15e991f4862a", func := "tallystick/tallysticklaw25.RouteGoes", spec := "routeGoes", inPlace := ["internal/abi.NoEscape", "internal/bytealg.MakeNoZero", "internal/bytealg.IndexByteString"], unfollowed := true, recurses := true, named := ["math/bits.divideError", "math/bits.overflowError"], apart := false }
def RouteGoesSaid : Prop := routeGoesRow.holds Tryz.pinned (OpenSpec.ofChange routeGoesSpec)

/-- ITS FALSE NEIGHBOUR: 'it returns false'. Refute it at one input. -/
def routeGoesWrong : ChangeSpec := { name := "routeGoes", fn := fun _ => fun
  | [d1, d2, d3, d4] => { results := [.lit (.bool false)], args := [d1, d2, d3, d4] }
  | _ => none }
def RouteGoesWrongFalsely : Prop := routeGoesRow.holds Tryz.pinned (OpenSpec.ofChange routeGoesWrong)

/- THE SECOND FORM. 'bulk': how many values and letters a reading holds, each counted each time it is reached (what is shared counts as often as it is met; a slice's spare places count too). A statement '..UptoSaid' is the law's where the arguments, and the package variables that the reading takes, are together of bulk at most 1048576: NARROWER than '..Said'. Prove '..Said' where nothing that the law and all that it calls make is longer than what came in: it says more and counts as full. Else prove '..UptoSaid'. A law counts once. -/
mutual
def uptoBulk {H : Type} : DataW H → Nat
  | .lit (.string bytes) => bytes.length + 1
  | .lit _ => 1
  | .nil => 1
  | .ptr d => uptoBulk d + 1
  | .slice elems spare => uptoBulkAll elems + uptoBulkAll spare + 1
  | .agg parts => uptoBulkAll parts + 1
  | .iface _ d => uptoBulk d + 1
  | .map entries => uptoBulkEntries entries + 1
  | .held _ => 1
def uptoBulkAll {H : Type} : List (DataW H) → Nat
  | [] => 0
  | d :: r => uptoBulk d + uptoBulkAll r
def uptoBulkEntries {H : Type} : List (Lit × DataW H) → Nat
  | [] => 0
  | x :: r => uptoBulkEntry x + uptoBulkEntries r
def uptoBulkEntry {H : Type} : Lit × DataW H → Nat
  | (.string bytes, d) => bytes.length + uptoBulk d + 1
  | (_, d) => uptoBulk d + 1
 end
def uptoSmall : (H : Type) → List (DataW H) → Bool := fun _ ds => decide (uptoBulkAll ds ≤ 1048576)
def OpenSpec.upto (s : _root_.Go.ChangeSpec) : _root_.Go.OpenSpec := { _root_.Go.OpenSpec.ofChange s with cond := some uptoSmall }

/-- 'tallysticklaw25.RouteWraps', WHERE WHAT IT READS IS OF BULK AT MOST 1048576: true; the input reads as it did. -/
def routeWrapsUptoRow : OpenClaim := { program := "ytloiaaolnfimgaagreat", sum := "1fea99241878f8edd750992bfe6d4932201110135dbec0cfb19f15e991f4862a", func := "tallystick/tallysticklaw25.RouteWraps", spec := "routeWraps", inPlace := ["internal/abi.NoEscape", "internal/bytealg.MakeNoZero", "internal/bytealg.IndexByteString"], unfollowed := true, recurses := true, named := ["math/bits.divideError", "math/bits.overflowError"], apart := false, narrowed := true }
def RouteWrapsUptoSaid : Prop := routeWrapsUptoRow.holds Tryz.pinned (OpenSpec.upto routeWrapsSpec)

/-- 'tallysticklaw25.RoutePeels', WHERE WHAT IT READS IS OF BULK AT MOST 1048576: true; the input reads as it did. -/
def routePeelsUptoRow : OpenClaim := { program := "ytloiaaolnfimgaagreat", sum := "1fea99241878f8edd750992bfe6d4932201110135dbec0cfb19f15e991f4862a", func := "tallystick/tallysticklaw25.RoutePeels", spec := "routePeels", inPlace := ["internal/abi.NoEscape", "internal/bytealg.MakeNoZero", "internal/bytealg.IndexByteString"], unfollowed := true, recurses := true, named := ["math/bits.divideError", "math/bits.overflowError"], apart := false, narrowed := true }
def RoutePeelsUptoSaid : Prop := routePeelsUptoRow.holds Tryz.pinned (OpenSpec.upto routePeelsSpec)

/-- 'tallysticklaw25.RoutePlans', WHERE WHAT IT READS IS OF BULK AT MOST 1048576: true; the input reads as it did. -/
def routePlansUptoRow : OpenClaim := { program := "ytloiaaolnfimgaagreat", sum := "1fea99241878f8edd750992bfe6d4932201110135dbec0cfb19f15e991f4862a", func := "tallystick/tallysticklaw25.RoutePlans", spec := "routePlans", inPlace := ["internal/abi.NoEscape", "internal/bytealg.MakeNoZero", "internal/bytealg.IndexByteString"], unfollowed := true, recurses := true, named := ["math/bits.divideError", "math/bits.overflowError"], apart := false, narrowed := true }
def RoutePlansUptoSaid : Prop := routePlansUptoRow.holds Tryz.pinned (OpenSpec.upto routePlansSpec)

/-- 'tallysticklaw25.RouteTexts', WHERE WHAT IT READS IS OF BULK AT MOST 1048576: true; the input reads as it did. -/
def routeTextsUptoRow : OpenClaim := { program := "ytloiaaolnfimgaagreat", sum := "1fea99241878f8edd750992bfe6d4932201110135dbec0cfb19f15e991f4862a", func := "tallystick/tallysticklaw25.RouteTexts", spec := "routeTexts", inPlace := ["internal/abi.NoEscape", "internal/bytealg.MakeNoZero", "internal/bytealg.IndexByteString"], unfollowed := true, recurses := true, named := ["math/bits.divideError", "math/bits.overflowError"], apart := false, narrowed := true }
def RouteTextsUptoSaid : Prop := routeTextsUptoRow.holds Tryz.pinned (OpenSpec.upto routeTextsSpec)

/-- 'tallysticklaw25.RouteGoes', WHERE WHAT IT READS IS OF BULK AT MOST 1048576: true; the input reads as it did. -/
def routeGoesUptoRow : OpenClaim := { program := "ytloiaaolnfimgaagreat", sum := "1fea99241878f8edd750992bfe6d4932201110135dbec0cfb19f15e991f4862a", func := "tallystick/tallysticklaw25.RouteGoes", spec := "routeGoes", inPlace := ["internal/abi.NoEscape", "internal/bytealg.MakeNoZero", "internal/bytealg.IndexByteString"], unfollowed := true, recurses := true, named := ["math/bits.divideError", "math/bits.overflowError"], apart := false, narrowed := true }
def RouteGoesUptoSaid : Prop := routeGoesUptoRow.holds Tryz.pinned (OpenSpec.upto routeGoesSpec)

end Rows
end Go.Proofs.YtloiaaolnfimgaaGreat
