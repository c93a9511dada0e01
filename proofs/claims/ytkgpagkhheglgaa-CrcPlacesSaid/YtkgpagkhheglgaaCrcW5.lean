/- Walks: the rows that every law asks. -/
import Derived.Test.YtkgpagkhheglgaaCrcW4
namespace Go.Proofs.Ytkgpagkhheglgaa
open Go.RowKit
theorem num_any (n : Int) (w : World) (h : 0 ≤ n ∧ n ≤ 1000000) : Calls Try.prog 20 #[.int .i64 n] w fun e w' => e = .returned (.int .i64 n) ∧ w = w' := by
  obtain ⟨h1, h2⟩ := h
  go_enter Try.func20, Try.ntmps20
  go_wp2
  go_ret
  exact ⟨rfl, rfl⟩
theorem right_neg (n : Int) (w : World) (h : n < 0) : Calls Try.prog 31 #[.int .i64 n] w fun e w' => e = .returned (.int .i64 2) ∧ w = w' := by
  have hd : decide (n < 0) = true := by simpa using h
  go_enter Try.func31, Try.ntmps31
  go_wp2
  go_ret
  exact ⟨rfl, rfl⟩
theorem noughts_neg (s : BitVec 32) (n : Int) (w : World) (h : n < 0) : Calls Try.prog 18 #[.int .u32 (s.toNat : Int), .int .i64 n] w fun e w' => e = .returned (.tuple #[.int .u32 0, .int .i64 2]) ∧ w = w' := by
  go_enter Try.func18, Try.ntmps18
  go_wp2_with (first | (go_at_call 31; refine (right_neg n _ h).mono ?_; rintro e w' ⟨rfl, rfl⟩))
  go_ret2
  exact ⟨rfl, rfl⟩
def hi : List UInt8 := [104, 105]
def digits : List UInt8 := [49, 50, 51, 52, 53, 54, 55, 56, 57]
theorem hi_open : openB (hi ++ low4 (Crc.sum hi)) = hi ∧ openE (hi ++ low4 (Crc.sum hi)) = 0 := by decide +kernel
theorem abc_open : openB [97, 98, 99] = [] ∧ openE [97, 98, 99] = 130 := by decide +kernel
theorem digits_sum : (Crc.sum digits).toNat = 3808858755 := by decide +kernel
theorem none_sum : (Crc.sum []).toNat = 0 := by decide +kernel
theorem open_any (A : Option Addr) (n ca : Nat) (l : List UInt8) (w : World) (hn : l.length = n) (hbt : n ≤ 1099511627776) (hca : n ≤ ca) (hr : Rd w A l) :
    Calls Try.prog 22 #[.slice A n ca] w (OpenPost w l) := by
  by_cases h : 4 ≤ n
  · exact open_long A n ca l w hn h hbt hca hr
  · exact open_short A n ca l w hn (by omega)
set_option maxRecDepth 100000 in
set_option maxHeartbeats 400000 in
theorem works_any (w : World) : Calls Try.prog 11 #[] w fun e w' => e = .returned (.bool true) ∧ Below w.heap.size w w' := by
  have kc := fun (w : World) (C : Array Value) (n c : Nat) => Lib.run_convert_bytes_const (P := Try.prog) w 24 5 C n c Try.underlying24 Try.underlying5
  go_enter Try.func11, Try.ntmps11
  have hP1 : ∀ l ∈ [hi], l.length ≤ 1099511627776 := by simp [hi]
  have hP2 : ∀ l ∈ [digits], l.length ≤ 1099511627776 := by simp [digits]
  have HP1 := Lib.hid hP1
  have HP2 := Lib.hid hP2
  clear hP1 hP2
  go_wp2_with fail
  refine (seal_any _ 1 1 [hi] _ rfl (by omega) (by decide) HP1.out (Rds.one_at _ (by simp) (Rd.mark w _ _ hi) rfl)).mono ?_
  rintro e w1 ⟨v1, rfl, hown1, hb1⟩
  replace hb1 := below_step (below_new2 _ _ _) (by simp; omega) hb1
  obtain ⟨A1, c1, rfl, hc1, _, hrd1⟩ := hown1.slice
  clear hown1
  go_wp2_with fail
  refine (open_any A1 _ c1 (hi ++ low4 (Crc.sum hi)) _ rfl (by decide) hc1 hrd1).mono ?_
  rintro e w2 ⟨v2, rfl, hown2, hb2⟩
  rw [hi_open.1] at hown2
  rw [hi_open.2]
  replace hb2 := below_step hb1 hb1.size hb2
  obtain ⟨A2, c2, rfl, hc2, _, hrd2⟩ := hown2.slice
  clear hown2 hrd1 hc1 hb1
  go_wp2_with fail
  refine (open_any _ 3 3 [97, 98, 99] _ rfl (by decide) (by omega) (Rd.mark w2 _ _ [97, 98, 99])).mono ?_
  rintro e w3 ⟨v3, rfl, hown3, hb3⟩
  rw [abc_open.1] at hown3
  rw [abc_open.2]
  have hrd3 := (hrd2.alloc _).below hb3
  replace hb3 := below_step (hb2.alloc hb2.size _) (by have := hb2.size; simp; omega) hb3
  clear hown3 hrd2 hb2
  go_wp2_with fail
  refine (noughts_neg 0#32 (-1) _ (by decide)).mono ?_
  rintro e w' ⟨rfl, rfl⟩
  go_wp2_with fail
  refine (sum_any _ 1 1 [digits] _ rfl (by omega) HP2.out (Rds.one_at _ (by simp) (Rd.mark w3 _ _ digits) rfl)).mono ?_
  rintro e w4 ⟨rfl, hb4⟩
  have hrd4 := ((hrd3.alloc _).alloc _).below hb4
  replace hb4 := below_step ((hb3.alloc hb3.size _).alloc (by have := hb3.size; simp; omega) _) (by have := hb3.size; simp; omega) hb4
  clear hrd3 hb3
  rw [show [digits].flatten = digits from rfl, digits_sum]
  go_wp2_with fail
  refine (sum_any _ 0 0 [] _ rfl (by omega) (by simp) (Rds.nil _ _)).mono ?_
  rintro e w5 ⟨rfl, hb5⟩
  have hrd5 := hrd4.below hb5
  replace hb5 := below_step hb4 hb4.size hb5
  clear hrd4 hb4
  rw [show ([] : List (List UInt8)).flatten = [] from rfl, none_sum]
  have hcv := run_string_rd (P := Try.prog) w5 24 9 5 A2 hi.length c2 hi Try.underlying24 Try.underlying5 Try.underlying9 rfl hrd5
  replace hcv : Sem.run Try.prog (convert 24 9 (.slice A2 hi.length c2)) w5 = .ok (.string ⟨#[104, 105]⟩) w5 := hcv
  go_wp2_with (first | (go_at_call 20; refine (num_any _ _ (by omega)).mono ?_; rintro e w' ⟨rfl, rfl⟩))
  go_ret
  exact ⟨rfl, hb5⟩
end Go.Proofs.Ytkgpagkhheglgaa
