/- Walks: the product of two words. -/
import Derived.Test.YtkgpagkhheglgaaCrcW5
import Derived.Test.YtkgpagkhheglgaaCrcMath2
set_option linter.unusedVariables false
namespace Go.Proofs.Ytkgpagkhheglgaa
open Go.RowKit
theorem pow_u32 (j : Nat) (h : j < 32) : (2 : Int) ^ j % 4294967296 = ((2 ^ j : Nat) : Int) := by
  have h1 : (2 : Nat) ^ j < 4294967296 := Nat.pow_lt_pow_right (a := 2) (by omega) h
  have h2 : ((2 ^ j : Nat) : Int) = (2 : Int) ^ j := by push_cast; rfl
  rw [← h2]; exact Int.emod_eq_of_lt (Int.natCast_nonneg _) (Int.ofNat_lt.2 h1)
theorem and_two_pow (n j : Nat) : n &&& 2 ^ j = if n.testBit j then 2 ^ j else 0 := by
  apply Nat.eq_of_testBit_eq
  intro i
  rw [Nat.testBit_and, Nat.testBit_two_pow]
  by_cases h : j = i
  · subst h
    cases n.testBit j <;> simp [Nat.testBit_two_pow]
  · rw [decide_eq_false h, Bool.and_false]
    split
    · rw [Nat.testBit_two_pow, decide_eq_false h]
    · simp
theorem and_bit (a : BitVec 32) (j : Nat) (h : j < 32) : (bits .and .u32 (a.toNat : Int) ((2 : Int) ^ j % 4294967296) != 0) = a.getLsbD j := by
  have h1 : (2 : Nat) ^ j < 4294967296 := Nat.pow_lt_pow_right (a := 2) (by omega) h
  rw [pow_u32 j h, u32_and_nat _ _ a.isLt h1, and_two_pow]
  have h2 : a.getLsbD j = a.toNat.testBit j := rfl
  rw [h2]
  have h3 : 0 < 2 ^ j := Nat.two_pow_pos j
  cases a.toNat.testBit j
  · simp
  · simp only [if_true]
    rw [bne_iff_ne]; omega
set_option maxHeartbeats 400000 in
theorem times_any (a b : BitVec 32) (w : World) :
    Calls Try.prog 40 #[.int .u32 (a.toNat : Int), .int .u32 (b.toNat : Int)] w fun e w' => e = .returned (.int .u32 ((Crc.times a b).toNat : Int)) ∧ Below w.heap.size w w' := by
  have ha := a.isLt
  have hb := b.isLt
  go_enter Try.func40, Try.ntmps40
  go_wp2
  go_loopw [4, 9] (fun v t wr => ∃ k : Nat, k ≤ 32 ∧ t = .int .i64 k ∧ v = .int .u32 ((Crc.pick (fun i => a.getLsbD (31 - i)) (fun i => Crc.steps i b) k).toNat : Int) ∧ Row wr w.heap.size 55 #[.int .u32 ((Crc.steps k b).toNat : Int)] ∧ Below w.heap.size w wr) (fun _ t _ => 32 - (intOf t).toNat)
  case atStart => exact ⟨0, by omega, rfl, rfl, Row.new w _ _, below_new _ _⟩
  case round =>
    obtain ⟨k, hk, rfl, rfl, hrow, hbl⟩ := hrel
    have hc := (hrow.cell 0)
    have hf := hrow.frozen 0
    by_cases hlt : k < 32
    · have hb2 := and_bit a (31 - k) (by omega)
      have hyl := (Crc.steps k b).isLt
      have hn : Crc.pick (fun i => a.getLsbD (31 - i)) (fun i => Crc.steps i b) (k + 1) = Crc.pick (fun i => a.getLsbD (31 - i)) (fun i => Crc.steps i b) k ^^^ (if a.getLsbD (31 - k) then Crc.steps k b else 0#32) := rfl
      have HN := Lib.hid hn
      have hs : Crc.steps (k + 1) b = Crc.step (Crc.steps k b) := rfl
      have HS := Lib.hid hs
      clear hn hs
      generalize Crc.pick (fun i => a.getLsbD (31 - i)) (fun i => Crc.steps i b) k = z at *
      generalize Crc.steps k b = y at *
      have hzl := z.isLt
      have hx : bits .xor .u32 (z.toNat : Int) (y.toNat : Int) = ((z ^^^ y).toNat : Int) := Crc.u32_xor_bv z y
      cases hbit : a.getLsbD (31 - k)
      · rw [hbit] at hb2 HN
        go_wp2_with (first | (go_at_call 30; refine (step_any _ _ y _ hc hf).mono ?_; rintro e w' ⟨rfl, rfl⟩))
        go_roundw
        case rel => exact ⟨k + 1, by omega, by go_num, by rw [HN.out]; simp, by rw [HS.out]; exact (hrow.set 0 _), (hbl.setCell (p := ⟨w.heap.size, 0, none⟩) (Nat.le_refl _) _).drew⟩
        case measure => simp [intOf]; omega
      · rw [hbit] at hb2 HN
        go_wp2_with (first | (go_at_call 30; refine (step_any _ _ y _ hc hf).mono ?_; rintro e w' ⟨rfl, rfl⟩))
        go_roundw
        case rel => exact ⟨k + 1, by omega, by go_num, by rw [HN.out]; simp, by rw [HS.out]; exact (hrow.set 0 _), (hbl.setCell (p := ⟨w.heap.size, 0, none⟩) (Nat.le_refl _) _).drew⟩
        case measure => simp [intOf]; omega
    · obtain rfl : k = 32 := by omega
      go_wp2
      go_ret
      exact ⟨rfl, hbl⟩
end Go.Proofs.Ytkgpagkhheglgaa
