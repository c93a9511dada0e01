/- WireFrames: all cases. -/
import Derived.Test.YtmipaacobioakaaWr49
set_option linter.unusedVariables false
set_option linter.unusedSimpArgs false
namespace Go.Proofs.Ytmipaacobioakaa
open Go.RowKit
set_option maxRecDepth 100000 in
set_option maxHeartbeats 4000000 in
theorem wireFrames_out (A : Option Addr) (n c : Nat) (A2 : Option Addr) (n2 c2 : Nat) (many : Int) (w : World) (hn : n ≤ 9223372036854775807) (hn2 : n2 ≤ 9223372036854775807) (hout : 500 < n ∨ 500 < n2) :
    Calls Try.prog 7 #[.slice A n c, .slice A2 n2 c2, .int .i64 many] w fun e w' => e = .returned (.bool true) ∧ Below w.heap.size w w' := by
  refine Calls.post fun Φ HΦ => ?_
  have k5 := (Row.new w 3 #[.int .i64 many]).alloc (.cells #[.bool false] 4)
  have k6 := Row.new (w.alloc (.cells #[.int .i64 many] 3)) 4 #[.bool false]
  have hL1 := ((Later.refl w).alloc (.cells #[.int .i64 many] 3)).alloc (.cells #[.bool false] 4)
  simp only [World.size_alloc] at k6
  go_enter Try.func7, Try.ntmps7
  go_upto_region 1 with fail
  obtain ⟨q, hq⟩ : ∃ q, q = w.heap.size := ⟨_, rfl⟩
  rw [← hq] at k5 k6 ⊢
  have HQ := Lib.hid hq
  clear hq
  generalize (w.alloc (.cells #[.int .i64 many] 3)).alloc (.cells #[.bool false] 4) = w1 at *
  have hwk := wworks_any w1
  by_cases h1 : 500 < n
  · have d1 : decide ((500 : Int) < (n : Int)) = true := decide_eq_true (by omega)
    have d1' : decide (500 < n) = true := decide_eq_true (by omega)
    go_wp2_with (first
      | (go_at_call 9; refine hwk.mono ?_; clear hwk; rintro e w7 ⟨rfl, hL7⟩; have k67 := k6.later hL7; have c67 : w7.cell? ⟨q + 1, 0, none⟩ = some (.bool false) := (k67.cell 0).trans rfl; have f67 : w7.frozen? ⟨q + 1, 0, none⟩ = false := k67.frozen 0)
      | fail)
    have hcv : (w7.setCell ⟨q + 1, 0, none⟩ (.bool true)).cell? ⟨q + 1, 0, none⟩ = some (.bool true) := ((k67.set 0 (.bool true)).cell 0).trans rfl
    exact bodyPost_ret (v := .bool true) (by simp [results, Try.results7, go_sem, hcv]) rfl (HΦ.out _ _ ⟨rfl, (hL1.step hL7).setCell (p := ⟨q + 1, 0, none⟩) (by have := HQ.out; show w.heap.size ≤ q + 1; omega) _⟩)
  · have h2 : 500 < n2 := by omega
    have d1 : decide ((500 : Int) < (n : Int)) = false := decide_eq_false (by omega)
    have d1' : decide (500 < n) = false := decide_eq_false (by omega)
    have d2 : decide ((500 : Int) < (n2 : Int)) = true := decide_eq_true (by omega)
    have d2' : decide (500 < n2) = true := decide_eq_true (by omega)
    go_wp2_with (first
      | (go_at_call 9; refine hwk.mono ?_; clear hwk; rintro e w7 ⟨rfl, hL7⟩; have k67 := k6.later hL7; have c67 : w7.cell? ⟨q + 1, 0, none⟩ = some (.bool false) := (k67.cell 0).trans rfl; have f67 : w7.frozen? ⟨q + 1, 0, none⟩ = false := k67.frozen 0)
      | fail)
    have hcv : (w7.setCell ⟨q + 1, 0, none⟩ (.bool true)).cell? ⟨q + 1, 0, none⟩ = some (.bool true) := ((k67.set 0 (.bool true)).cell 0).trans rfl
    exact bodyPost_ret (v := .bool true) (by simp [results, Try.results7, go_sem, hcv]) rfl (HΦ.out _ _ ⟨rfl, (hL1.step hL7).setCell (p := ⟨q + 1, 0, none⟩) (by have := HQ.out; show w.heap.size ≤ q + 1; omega) _⟩)
theorem wireFrames_walk (A : Option Addr) (n c : Nat) (b : List UInt8) (A2 : Option Addr) (n2 c2 : Nat) (s : List UInt8) (many : Int) (wm : (Lit.int .i64 many).wf = true) (w : World) (hi : InBytes w A n c b) (hj : InBytes w A2 n2 c2 s) :
    Calls Try.prog 7 #[.slice A n c, .slice A2 n2 c2, .int .i64 many] w fun e w' => e = .returned (.bool true) ∧ Below w.heap.size w w' := by
  have h1 := hi.cap
  have h2 := hi.most
  have h3 := hj.cap
  have h4 := hj.most
  have h5 : -9223372036854775808 ≤ many ∧ many ≤ 9223372036854775807 := by
    simp [Lit.wf, IntKind.min, IntKind.max, IntKind.signed, IntKind.bits] at wm
    omega
  unfold maxLen at h2 h4
  by_cases h : 500 < n ∨ 500 < n2
  · exact wireFrames_out A n c A2 n2 c2 many w (by omega) (by omega) h
  · exact wireFrames_main A n c b A2 n2 c2 s many w hi.len (by omega) h1 (by omega) hi.rd hj.len (by omega) h3 (by omega) hj.rd h5
end Go.Proofs.Ytmipaacobioakaa
