/- ShaHolds: the walk, for all that comes in. -/
import Derived.Test.YtfconncnccgenaaShaH3
import Derived.Test.YtfconncnccgenaaOpenA
import Derived.Test.YtfconncnccgenaaLaw
set_option linter.unusedVariables false
set_option linter.unusedSimpArgs false
namespace Go.Proofs.Ytfconncnccgenaa
open Go.RowKit
set_option maxRecDepth 100000 in
set_option maxHeartbeats 1000000 in
theorem shaHolds_out (A : Option Addr) (n ca piece : Nat) (x y s : List UInt8) (w : World) (hs : s.length ≤ 9223372036854775807) (hnm : n ≤ 9223372036854775807) (hx : x.length = 32) (hy : y.length = 32) (hout : 600 < n ∨ 200 < s.length) :
    Calls Try.prog 7 #[.slice A n ca, .int .u8 (piece : Int), .agg (hC x), .agg (hC y), .string ⟨s.toArray⟩] w fun e w' => e = .returned (.bool true) ∧ Below w.heap.size w w' := by
  have hb0 := below_new2 w (.cells (hC x) 26) (.cells (hC y) 26)
  have hw := works_yes ((w.alloc (.cells (hC x) 26)).alloc (.cells (hC y) 26))
  by_cases h1 : 600 < n
  · have hd1 : decide (600 < n) = true := by simpa using h1
    have hd1' : decide ((600 : Int) < (n : Int)) = true := by simp; omega
    go_enter Try.func7, Try.ntmps7
    go_wp2_with (first
      | (refine wpList_box rfl 26 (.tmp 2) rfl (.agg (hC x)) rfl (boxH x hx _) ?_)
      | (refine wpList_box rfl 26 (.tmp 3) rfl (.agg (hC y)) rfl (boxH y hy _) ?_)
      | (go_at_call 9; refine hw.mono ?_; clear hw; rintro e w1 ⟨rfl, hb1⟩)
      | fail)
    go_ret
    exact ⟨rfl, hb0.trans (hb1.mono hb0.size)⟩
  · have hd1 : decide (600 < n) = false := by simpa using h1
    have hd1' : decide ((600 : Int) < (n : Int)) = false := by simp; omega
    have h2 : 200 < s.length := by omega
    have hd2 : decide (200 < s.length) = true := by simpa using h2
    have hd2' : decide ((200 : Int) < (s.length : Int)) = true := by simp; omega
    go_enter Try.func7, Try.ntmps7
    go_wp2_with (first
      | (refine wpList_box rfl 26 (.tmp 2) rfl (.agg (hC x)) rfl (boxH x hx _) ?_)
      | (refine wpList_box rfl 26 (.tmp 3) rfl (.agg (hC y)) rfl (boxH y hy _) ?_)
      | (go_at_call 9; refine hw.mono ?_; clear hw; rintro e w1 ⟨rfl, hb1⟩)
      | fail)
    go_ret
    exact ⟨rfl, hb0.trans (hb1.mono hb0.size)⟩
theorem shaHolds_walk (A : Option Addr) (n c : Nat) (l : List UInt8) (p : Int) (wp : (Lit.int .u8 p).wf = true) (x : List UInt8) (hx : x.length = 32) (y : List UInt8) (hy : y.length = 32) (s : ByteArray) (w0 : s.size ≤ maxLen) (w : World) (hi : InBytes w A n c l) :
    Calls Try.prog 7 #[.slice A n c, .int .u8 p, .agg (x.map byteV).toArray, .agg (y.map byteV).toArray, .string s] w fun e w' => e = .returned (.bool true) ∧ Below w.heap.size w w' := by
  rw [← hC_full x hx, ← hC_full y hy]
  obtain ⟨q, rfl⟩ : ∃ q : List UInt8, s = ⟨q.toArray⟩ := ⟨s.data.toList, by cases s; simp⟩
  have hq : q.length ≤ 9223372036854775807 := by
    have e : (ByteArray.mk q.toArray).size = q.length := by simp [ByteArray.size]
    rw [e] at w0
    unfold maxLen at w0
    exact w0
  have h1 := hi.cap
  have h2 := hi.most
  unfold maxLen at h2
  have hp : 0 ≤ p ∧ p < 256 := by
    simp [Lit.wf, IntKind.min, IntKind.max, IntKind.signed, IntKind.bits] at wp
    omega
  obtain ⟨k, rfl⟩ : ∃ k : Nat, p = (k : Int) := ⟨p.toNat, by omega⟩
  by_cases hout : 600 < n ∨ 200 < q.length
  · exact shaHolds_out A n c k x y q w hq (by omega) hx hy hout
  · exact shaHolds_main A n c l k x y q w hi.len (by omega) h1 (by omega) hi.rd (by omega) hx hy (by omega)
end Go.Proofs.Ytfconncnccgenaa
