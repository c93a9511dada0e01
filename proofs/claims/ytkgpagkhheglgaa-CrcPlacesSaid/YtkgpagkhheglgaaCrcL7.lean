/- Walks: noughts and patches, of the program and of the document; the laws CrcNoughts, CrcPatches. -/
import Derived.Test.YtkgpagkhheglgaaCrcL6
import Derived.Test.YtkgpagkhheglgaaCrcW7
namespace Go.Proofs.Ytkgpagkhheglgaa
open Go.RowKit
def MAX : Int := 1099511627776
theorem right_far (n : Int) (w : World) (h : 1099511627776 < n) (h2 : n ≤ 9223372036854775807) : Calls Try.prog 31 #[.int .i64 n] w fun e w' => e = .returned (.int .i64 2) ∧ w = w' := by
  have hd : decide (n < 0) = false := by simp; omega
  have hd2 : decide (1099511627776 < n) = true := by simpa using h
  go_enter Try.func31, Try.ntmps31
  go_wp2
  go_ret
  exact ⟨rfl, rfl⟩
theorem right_yes (n : Nat) (w : World) (h : n ≤ 1099511627776) : Calls Try.prog 31 #[.int .i64 (n : Int)] w fun e w' => e = .returned (.int .i64 0) ∧ w = w' := by
  have hd : decide ((n : Int) < 0) = false := by simp
  have hd2 : decide ((1099511627776 : Int) < (n : Int)) = false := by simp; omega
  go_enter Try.func31, Try.ntmps31
  go_wp2
  go_ret
  exact ⟨rfl, rfl⟩
theorem right_no (n : Int) (w : World) (h : n < 0 ∨ 1099511627776 < n) (h2 : n ≤ 9223372036854775807) : Calls Try.prog 31 #[.int .i64 n] w fun e w' => e = .returned (.int .i64 2) ∧ w = w' := by
  rcases h with h | h
  · exact right_neg n w h
  · exact right_far n w h h2
theorem noughts_no (s : BitVec 32) (n : Int) (w : World) (h : n < 0 ∨ 1099511627776 < n) (h2 : n ≤ 9223372036854775807) : Calls Try.prog 18 #[.int .u32 (s.toNat : Int), .int .i64 n] w fun e w' => e = .returned (.tuple #[.int .u32 0, .int .i64 2]) ∧ w = w' := by
  have H := Lib.hid h
  clear h
  go_enter Try.func18, Try.ntmps18
  go_wp2_with (first | (go_at_call 31; refine (right_no n _ H.out h2).mono ?_; rintro e w' ⟨rfl, rfl⟩))
  go_ret2
  exact ⟨rfl, rfl⟩
theorem patch_no (s a b : BitVec 32) (n : Int) (w : World) (h : n < 0 ∨ 1099511627776 < n) (h2 : n ≤ 9223372036854775807) : Calls Try.prog 25 #[.int .u32 (s.toNat : Int), .int .u32 (a.toNat : Int), .int .u32 (b.toNat : Int), .int .i64 n] w fun e w' => e = .returned (.tuple #[.int .u32 0, .int .i64 2]) ∧ w = w' := by
  have H := Lib.hid h
  clear h
  go_enter Try.func25, Try.ntmps25
  go_wp2_with (first | (go_at_call 31; refine (right_no n _ H.out h2).mono ?_; rintro e w' ⟨rfl, rfl⟩))
  go_ret2
  exact ⟨rfl, rfl⟩
def noughts (s : BitVec 32) (n : Nat) : BitVec 32 := ~~~ (Crc.far (~~~ s) n)
def patch (s a b : BitVec 32) (n : Nat) : BitVec 32 := s ^^^ Crc.far (a ^^^ b) n
theorem noughts_yes (s : BitVec 32) (n : Nat) (w : World) (h : n ≤ 1099511627776) : Calls Try.prog 18 #[.int .u32 (s.toNat : Int), .int .i64 (n : Int)] w fun e w' => e = .returned (.tuple #[.int .u32 ((noughts s n).toNat : Int), .int .i64 0]) ∧ Below w.heap.size w w' := by
  have hsl := s.isLt
  obtain ⟨y, hy⟩ : ∃ y, y = ~~~s := ⟨_, rfl⟩
  have hyb : bits .xor .u32 IntKind.u32.max (s.toNat : Int) = (y.toNat : Int) := by rw [hy]; exact not_val s
  obtain ⟨z, hz⟩ : ∃ z, Crc.far y n = z := ⟨_, rfl⟩
  obtain ⟨v, hv⟩ : ∃ v, v = ~~~z := ⟨_, rfl⟩
  have hzb : bits .xor .u32 IntKind.u32.max (z.toNat : Int) = (v.toNat : Int) := by rw [hv]; exact not_val z
  have hfin : noughts s n = v := by rw [noughts, ← hy, hz, hv]
  have HF := Lib.hid hfin
  have HZ := Lib.hid hz
  clear hy hz hv hfin
  have hsg : IntKind.u32.signed = false := rfl
  have hzl := z.isLt
  go_enter Try.func18, Try.ntmps18
  go_wp2_with (first
    | (go_at_call 31; refine (right_yes n _ h).mono ?_; rintro e w' ⟨rfl, rfl⟩)
    | (go_at_call 32; refine (far_any y n h _).mono ?_; rintro e w1 ⟨rfl, hb1⟩; rw [HZ.out]))
  go_ret2
  exact ⟨by rw [HF.out]; rfl, hb1⟩
theorem patch_yes (s a b : BitVec 32) (n : Nat) (w : World) (h : n ≤ 1099511627776) : Calls Try.prog 25 #[.int .u32 (s.toNat : Int), .int .u32 (a.toNat : Int), .int .u32 (b.toNat : Int), .int .i64 (n : Int)] w fun e w' => e = .returned (.tuple #[.int .u32 ((patch s a b n).toNat : Int), .int .i64 0]) ∧ Below w.heap.size w w' := by
  have h1 := s.isLt
  have h2 := a.isLt
  have h3 := b.isLt
  obtain ⟨y, hy⟩ : ∃ y, y = a ^^^ b := ⟨_, rfl⟩
  have hyb : bits .xor .u32 (a.toNat : Int) (b.toNat : Int) = (y.toNat : Int) := by rw [hy]; exact Crc.u32_xor_bv a b
  obtain ⟨z, hz⟩ : ∃ z, Crc.far y n = z := ⟨_, rfl⟩
  obtain ⟨v, hv⟩ : ∃ v, v = s ^^^ z := ⟨_, rfl⟩
  have hzb : bits .xor .u32 (s.toNat : Int) (z.toNat : Int) = (v.toNat : Int) := by rw [hv]; exact Crc.u32_xor_bv s z
  have hfin : patch s a b n = v := by rw [patch, ← hy, hz, hv]
  have HF := Lib.hid hfin
  have HZ := Lib.hid hz
  clear hy hz hv hfin
  have hzl := z.isLt
  go_enter Try.func25, Try.ntmps25
  go_wp2_with (first
    | (go_at_call 31; refine (right_yes n _ h).mono ?_; rintro e w' ⟨rfl, rfl⟩)
    | (go_at_call 32; refine (far_any y n h _).mono ?_; rintro e w1 ⟨rfl, hb1⟩; rw [HZ.out]))
  go_ret2
  exact ⟨by rw [HF.out]; rfl, hb1⟩
/- the document's -/
theorem refNoughts_yes (s : BitVec 32) (n : Nat) (w : World) (h : n ≤ 1099511627776) : Calls Try.prog 19 #[.int .u32 (s.toNat : Int), .int .i64 (n : Int)] w fun e w' => e = .returned (.tuple #[.int .u32 ((noughts s n).toNat : Int), .int .i64 0]) ∧ Below w.heap.size w w' := by
  have hsl := s.isLt
  obtain ⟨y, hy⟩ : ∃ y, y = ~~~s := ⟨_, rfl⟩
  have hyb : 4294967295 - (s.toNat : Int) = (y.toNat : Int) := by rw [hy]; exact sub_not s
  obtain ⟨z, hz⟩ : ∃ z, Crc.far y n = z := ⟨_, rfl⟩
  obtain ⟨v, hv⟩ : ∃ v, v = ~~~z := ⟨_, rfl⟩
  have hzb : 4294967295 - (z.toNat : Int) = (v.toNat : Int) := by rw [hv]; exact sub_not z
  have hfin : noughts s n = v := by rw [noughts, ← hy, hz, hv]
  have HF := Lib.hid hfin
  have HZ := Lib.hid hz
  clear hy hz hv hfin
  have hzl := z.isLt
  have hd : decide ((n : Int) < 0) = false := by simp
  have hd2 : decide ((1099511627776 : Int) < (n : Int)) = false := by simp; omega
  go_enter Try.func19, Try.ntmps19
  go_wp2_with (first
    | (go_at_call 33; refine (refFar_any y n h _).mono ?_; rintro e w1 ⟨rfl, hb1⟩; rw [HZ.out]))
  go_ret2
  exact ⟨by rw [HF.out]; rfl, hb1⟩
theorem refNoughts_no (s : BitVec 32) (n : Int) (w : World) (h : n < 0 ∨ 1099511627776 < n) (h2 : n ≤ 9223372036854775807) : Calls Try.prog 19 #[.int .u32 (s.toNat : Int), .int .i64 n] w fun e w' => e = .returned (.tuple #[.int .u32 0, .int .i64 2]) ∧ w = w' := by
  rcases h with h | h
  · have hd : decide (n < 0) = true := by simpa using h
    go_enter Try.func19, Try.ntmps19
    go_wp2
    go_ret2
    exact ⟨rfl, rfl⟩
  · have hd : decide (n < 0) = false := by simp; omega
    have hd2 : decide ((1099511627776 : Int) < n) = true := by simpa using h
    go_enter Try.func19, Try.ntmps19
    go_wp2
    go_ret2
    exact ⟨rfl, rfl⟩
theorem refPatch_yes (s a b : BitVec 32) (n : Nat) (w : World) (h : n ≤ 1099511627776) : Calls Try.prog 26 #[.int .u32 (s.toNat : Int), .int .u32 (a.toNat : Int), .int .u32 (b.toNat : Int), .int .i64 (n : Int)] w fun e w' => e = .returned (.tuple #[.int .u32 ((patch s a b n).toNat : Int), .int .i64 0]) ∧ Below w.heap.size w w' := by
  have h1 := s.isLt
  have h2 := a.isLt
  have h3 := b.isLt
  obtain ⟨y, hy⟩ : ∃ y, y = a ^^^ b := ⟨_, rfl⟩
  have hyb : bits .xor .u32 (a.toNat : Int) (b.toNat : Int) = (y.toNat : Int) := by rw [hy]; exact Crc.u32_xor_bv a b
  obtain ⟨z, hz⟩ : ∃ z, Crc.far y n = z := ⟨_, rfl⟩
  obtain ⟨v, hv⟩ : ∃ v, v = s ^^^ z := ⟨_, rfl⟩
  have hzb : bits .xor .u32 (s.toNat : Int) (z.toNat : Int) = (v.toNat : Int) := by rw [hv]; exact Crc.u32_xor_bv s z
  have hfin : patch s a b n = v := by rw [patch, ← hy, hz, hv]
  have HF := Lib.hid hfin
  have HZ := Lib.hid hz
  clear hy hz hv hfin
  have hzl := z.isLt
  have hd : decide ((n : Int) < 0) = false := by simp
  have hd2 : decide ((1099511627776 : Int) < (n : Int)) = false := by simp; omega
  go_enter Try.func26, Try.ntmps26
  go_wp2_with (first
    | (go_at_call 33; refine (refFar_any y n h _).mono ?_; rintro e w1 ⟨rfl, hb1⟩; rw [HZ.out]))
  go_ret2
  exact ⟨by rw [HF.out]; rfl, hb1⟩
theorem refPatch_no (s a b : BitVec 32) (n : Int) (w : World) (h : n < 0 ∨ 1099511627776 < n) (h2 : n ≤ 9223372036854775807) : Calls Try.prog 26 #[.int .u32 (s.toNat : Int), .int .u32 (a.toNat : Int), .int .u32 (b.toNat : Int), .int .i64 n] w fun e w' => e = .returned (.tuple #[.int .u32 0, .int .i64 2]) ∧ w = w' := by
  rcases h with h | h
  · have hd : decide (n < 0) = true := by simpa using h
    go_enter Try.func26, Try.ntmps26
    go_wp2
    go_ret2
    exact ⟨rfl, rfl⟩
  · have hd : decide (n < 0) = false := by simp; omega
    have hd2 : decide ((1099511627776 : Int) < n) = true := by simpa using h
    go_enter Try.func26, Try.ntmps26
    go_wp2
    go_ret2
    exact ⟨rfl, rfl⟩
end Go.Proofs.Ytkgpagkhheglgaa
