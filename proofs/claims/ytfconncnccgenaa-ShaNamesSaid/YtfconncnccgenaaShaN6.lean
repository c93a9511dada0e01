/- ShaNames: the walk, for all that comes in. -/
import Derived.Test.YtfconncnccgenaaShaN5
import Derived.Test.YtfconncnccgenaaOpenA
import Derived.Test.YtfconncnccgenaaLaw
set_option linter.unusedVariables false
set_option linter.unusedSimpArgs false
namespace Go.Proofs.Ytfconncnccgenaa
open Go.RowKit
theorem shaNames_out (s h : List UInt8) (A : Option Addr) (n ca : Nat) (w : World) (hs : s.length ≤ 9223372036854775807) (hnm : n ≤ 9223372036854775807) (hh : h.length = 32) (hout : 200 < s.length ∨ 300 < n) :
    Calls Try.prog 6 #[.string ⟨s.toArray⟩, .agg (hC h), .slice A n ca] w fun e w' => e = .returned (.bool true) ∧ Below w.heap.size w w' := by
  have hb0 := below_new w (.cells (hC h) 26)
  have hw := works_yes (w.alloc (.cells (hC h) 26))
  by_cases h1 : 200 < s.length
  · have hd1 : decide (200 < s.length) = true := by simpa using h1
    have hd1' : decide ((200 : Int) < (s.length : Int)) = true := by simp; omega
    go_enter Try.func6, Try.ntmps6
    go_wp2_with (first
      | (refine wpList_box rfl 26 (.tmp 1) rfl (.agg (hC h)) rfl (boxH h hh _) ?_)
      | (go_at_call 9; refine hw.mono ?_; clear hw; rintro e w1 ⟨rfl, hb1⟩)
      | fail)
    go_ret
    exact ⟨rfl, hb0.trans (hb1.mono hb0.size)⟩
  · have hd1 : decide (200 < s.length) = false := by simpa using h1
    have hd1' : decide ((200 : Int) < (s.length : Int)) = false := by simp; omega
    have h2 : 300 < n := by omega
    have hd2 : decide (300 < n) = true := by simpa using h2
    have hd2' : decide ((300 : Int) < (n : Int)) = true := by simp; omega
    go_enter Try.func6, Try.ntmps6
    go_wp2_with (first
      | (refine wpList_box rfl 26 (.tmp 1) rfl (.agg (hC h)) rfl (boxH h hh _) ?_)
      | (go_at_call 9; refine hw.mono ?_; clear hw; rintro e w1 ⟨rfl, hb1⟩)
      | fail)
    go_ret
    exact ⟨rfl, hb0.trans (hb1.mono hb0.size)⟩
theorem shaNames_walk (s : ByteArray) (w0 : s.size ≤ maxLen) (h : List UInt8) (hl : h.length = 32) (A : Option Addr) (n c : Nat) (l : List UInt8) (w : World) (hi : InBytes w A n c l) :
    Calls Try.prog 6 #[.string s, .agg (h.map byteV).toArray, .slice A n c] w fun e w' => e = .returned (.bool true) ∧ Below w.heap.size w w' := by
  rw [← hC_full h hl]
  obtain ⟨q, rfl⟩ : ∃ q : List UInt8, s = ⟨q.toArray⟩ := ⟨s.data.toList, by cases s; simp⟩
  have hq : q.length ≤ 9223372036854775807 := by
    have e : (ByteArray.mk q.toArray).size = q.length := by simp [ByteArray.size]
    rw [e] at w0
    unfold maxLen at w0
    exact w0
  have h1 := hi.cap
  have h2 := hi.most
  unfold maxLen at h2
  by_cases hout : 200 < q.length ∨ 300 < n
  · exact shaNames_out q h A n c w hq (by omega) hl hout
  · exact shaNames_main q h A n c l w (by omega) hl hi.len (by omega) hi.rd
end Go.Proofs.Ytfconncnccgenaa
