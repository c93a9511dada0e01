/- ShaHexes: the walk, for all that comes in. -/
import Derived.Test.YtfconncnccgenaaShaL0
set_option linter.unusedVariables false
set_option linter.unusedSimpArgs false
namespace Go.Proofs.Ytfconncnccgenaa
open Go.RowKit
theorem shaHexes_walk (s : ByteArray) (w0 : s.size ≤ maxLen) (h : List UInt8) (hl : h.length = 32) (at_ : Int) (w2 : (Lit.int .i64 at_).wf = true) (sg : Int) (w3 : (Lit.int .u8 sg).wf = true) (w : World) :
    Calls Try.prog 4 #[.string s, .agg (h.map byteV).toArray, .int .i64 at_, .int .u8 sg] w fun e w' => e = .returned (.bool true) ∧ Below w.heap.size w w' := by
  rw [← hC_full h hl]
  have hsg : 0 ≤ sg ∧ sg < 256 := by
    simp [Lit.wf, IntKind.min, IntKind.max, IntKind.signed, IntKind.bits] at w3
    omega
  by_cases hout : 500 < s.size ∨ at_ < 0 ∨ 63 < at_
  · exact shaHexes_out s h at_ sg w hl hsg hout
  · obtain ⟨n, rfl⟩ : ∃ n : Nat, at_ = (n : Int) := ⟨at_.toNat, by omega⟩
    obtain ⟨b, rfl⟩ : ∃ b : UInt8, sg = (b.toNat : Int) := ⟨UInt8.ofNat sg.toNat, by rw [UInt8.toNat_ofNat']; omega⟩
    exact shaHexes_main s h n b w hl (by omega) (by omega)
end Go.Proofs.Ytfconncnccgenaa
