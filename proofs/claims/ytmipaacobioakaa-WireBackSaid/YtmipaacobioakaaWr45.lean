/- WireBack: all cases. -/
import Derived.Test.YtmipaacobioakaaWr44
set_option linter.unusedVariables false
set_option linter.unusedSimpArgs false
namespace Go.Proofs.Ytmipaacobioakaa
open Go.RowKit
set_option maxRecDepth 100000 in
set_option maxHeartbeats 4000000 in
theorem wireBack_out (A : Option Addr) (n c : Nat) (xs : List ActL) (A2 : Option Addr) (n2 c2 : Nat) (ts : List (List UInt8)) (cut : Int) (w : World) (hn : xs.length = n) (hm : n ≤ 9223372036854775807) (hx : Acts w A xs) (hm2 : n2 ≤ 9223372036854775807) (hout : (xs.all Wr.small && decide (n ≤ 30)) = false ∨ 8 < n2) :
    Calls Try.prog 8 #[.slice A n c, .slice A2 n2 c2, .int .i64 cut] w fun e w' => e = .returned (.bool true) ∧ Below w.heap.size w w' := by
  refine Calls.post fun Φ HΦ => ?_
  have k4 := (Row.new w 90 #[.slice A2 n2 c2]).alloc (.cells #[.bool false] 4)
  have k6 := Row.new (w.alloc (.cells #[.slice A2 n2 c2] 90)) 4 #[.bool false]
  have hL1 := ((Later.refl w).alloc (.cells #[.slice A2 n2 c2] 90)).alloc (.cells #[.bool false] 4)
  simp only [World.size_alloc] at k6
  have hx1 := Acts.later hx hL1
  have hfew := few_any A n c xs 30 ((w.alloc (.cells #[.slice A2 n2 c2] 90)).alloc (.cells #[.bool false] 4)) hn hm (by omega) hx1
  obtain ⟨f, hf⟩ : ∃ f, (xs.all Wr.small && decide (n ≤ 30)) = f := ⟨_, rfl⟩
  rw [hf] at hfew hout
  clear hn hx1 hf
  go_enter Try.func8, Try.ntmps8
  go_upto_region 1 with fail
  obtain ⟨q, hq⟩ : ∃ q, q = w.heap.size := ⟨_, rfl⟩
  rw [← hq] at k4 k6 ⊢
  have HQ := Lib.hid hq
  clear hq
  generalize (w.alloc (.cells #[.slice A2 n2 c2] 90)).alloc (.cells #[.bool false] 4) = w1 at *
  have c41 : w1.cell? ⟨q, 0, none⟩ = some (.slice A2 n2 c2) := (k4.cell 0).trans rfl
  have hwk := wworks_any w1
  cases f with
  | false =>
    clear hout
    go_wp2_with (first
      | (go_at_call 24; refine hfew.mono ?_; clear hfew; rintro e w' ⟨rfl, hww⟩; replace hww := hww.symm; subst hww)
      | (go_at_call 9; refine hwk.mono ?_; clear hwk; rintro e w7 ⟨rfl, hL7⟩; have k67 := k6.later hL7; have c67 : w7.cell? ⟨q + 1, 0, none⟩ = some (.bool false) := (k67.cell 0).trans rfl; have f67 : w7.frozen? ⟨q + 1, 0, none⟩ = false := k67.frozen 0)
      | fail)
    have hcv : (w7.setCell ⟨q + 1, 0, none⟩ (.bool true)).cell? ⟨q + 1, 0, none⟩ = some (.bool true) := ((k67.set 0 (.bool true)).cell 0).trans rfl
    exact bodyPost_ret (v := .bool true) (by simp [results, Try.results8, go_sem, hcv]) rfl (HΦ.out _ _ ⟨rfl, (hL1.step hL7).setCell (p := ⟨q + 1, 0, none⟩) (by have := HQ.out; show w.heap.size ≤ q + 1; omega) _⟩)
  | true =>
    have h8 : 8 < n2 := hout.resolve_left (by simp)
    have d8 : decide ((8 : Int) < (n2 : Int)) = true := decide_eq_true (by omega)
    have d8' : decide (8 < n2) = true := decide_eq_true (by omega)
    clear hout
    go_wp2_with (first
      | (go_at_call 24; refine hfew.mono ?_; clear hfew; rintro e w' ⟨rfl, hww⟩; replace hww := hww.symm; subst hww)
      | (go_at_call 9; refine hwk.mono ?_; clear hwk; rintro e w7 ⟨rfl, hL7⟩; have k67 := k6.later hL7; have c67 : w7.cell? ⟨q + 1, 0, none⟩ = some (.bool false) := (k67.cell 0).trans rfl; have f67 : w7.frozen? ⟨q + 1, 0, none⟩ = false := k67.frozen 0)
      | fail)
    have hcv : (w7.setCell ⟨q + 1, 0, none⟩ (.bool true)).cell? ⟨q + 1, 0, none⟩ = some (.bool true) := ((k67.set 0 (.bool true)).cell 0).trans rfl
    exact bodyPost_ret (v := .bool true) (by simp [results, Try.results8, go_sem, hcv]) rfl (HΦ.out _ _ ⟨rfl, (hL1.step hL7).setCell (p := ⟨q + 1, 0, none⟩) (by have := HQ.out; show w.heap.size ≤ q + 1; omega) _⟩)
theorem wireBack_walk (A : Option Addr) (n c : Nat) (xs : List ActL) (A2 : Option Addr) (n2 c2 : Nat) (ts : List (List UInt8)) (cut : Int) (wc : (Lit.int .i64 cut).wf = true) (w : World) (hi : InActs w A n c xs) (hj : InStrs w A2 n2 c2 ts) :
    Calls Try.prog 8 #[.slice A n c, .slice A2 n2 c2, .int .i64 cut] w fun e w' => e = .returned (.bool true) ∧ Below w.heap.size w w' := by
  have h1 := hi.cap
  have h2 := hi.most
  have h3 := hj.cap
  have h4 := hj.most
  have h5 : -9223372036854775808 ≤ cut ∧ cut ≤ 9223372036854775807 := by
    simp [Lit.wf, IntKind.min, IntKind.max, IntKind.signed, IntKind.bits] at wc
    omega
  unfold maxLen at h2 h4
  cases h : (xs.all Wr.small && decide (n ≤ 30)) with
  | true =>
    by_cases h8 : n2 ≤ 8
    · rw [Bool.and_eq_true] at h
      exact wireBack_main A n c xs A2 n2 c2 ts cut w hi.len (of_decide_eq_true h.2) h.1 hi.rd hj.len h8 hj.small hj.rd h5
    · exact wireBack_out A n c xs A2 n2 c2 ts cut w hi.len (by omega) hi.rd (by omega) (.inr (by omega))
  | false => exact wireBack_out A n c xs A2 n2 c2 ts cut w hi.len (by omega) hi.rd (by omega) (.inl h)
end Go.Proofs.Ytmipaacobioakaa
