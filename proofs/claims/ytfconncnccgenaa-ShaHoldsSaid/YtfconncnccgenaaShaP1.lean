/- Walks: the document's words: rotations, most of three, one of two picked. -/
import Derived.Test.YtfconncnccgenaaShaW2
set_option linter.unusedVariables false
set_option linter.unusedSimpArgs false
namespace Go.Proofs.Ytfconncnccgenaa
open Go.RowKit
theorem xor3_ret (x y z : BitVec 32) : bits .xor .u32 (bits .xor .u32 (x.toNat : Int) (y.toNat : Int)) (z.toNat : Int) = ((x ^^^ y ^^^ z).toNat : Int) := by rw [bv_xor, bv_xor]
theorem refR_any (x : BitVec 32) (p q n : Nat) (hp1 : 1 ≤ p) (hp2 : p ≤ 31) (hq1 : 1 ≤ q) (hq2 : q ≤ 31) (hn : n ≤ 31) (w : World) :
    Calls Try.prog 39 #[.int .u32 (x.toNat : Int), .int .i64 (p : Int), .int .i64 (q : Int), .int .i64 (n : Int)] w fun e w' => e = .returned (.int .u32 ((Sha.ror x p ^^^ Sha.ror x q ^^^ (x >>> n)).toNat : Int)) ∧ w = w' := by
  have hx := x.isLt
  go_enter Try.func39, Try.ntmps39
  go_wp2_with fail
  refine (rotl_down x p hp1 hp2 _).mono ?_
  rintro e w1 ⟨rfl, rfl⟩
  go_wp2_with fail
  refine (rotl_down x q hq1 hq2 _).mono ?_
  rintro e w1 ⟨rfl, rfl⟩
  go_wp2_with fail
  go_ret
  exact ⟨ret_u32 (by rw [bv_shr]; exact xor3_ret _ _ _), rfl⟩
theorem refS_any (x : BitVec 32) (p q n : Nat) (hp1 : 1 ≤ p) (hp2 : p ≤ 31) (hq1 : 1 ≤ q) (hq2 : q ≤ 31) (hn1 : 1 ≤ n) (hn : n ≤ 31) (w : World) :
    Calls Try.prog 41 #[.int .u32 (x.toNat : Int), .int .i64 (p : Int), .int .i64 (q : Int), .int .i64 (n : Int)] w fun e w' => e = .returned (.int .u32 ((Sha.ror x p ^^^ Sha.ror x q ^^^ Sha.ror x n).toNat : Int)) ∧ w = w' := by
  have hx := x.isLt
  go_enter Try.func41, Try.ntmps41
  go_wp2_with fail
  refine (rotl_down x p hp1 hp2 _).mono ?_
  rintro e w1 ⟨rfl, rfl⟩
  go_wp2_with fail
  refine (rotl_down x q hq1 hq2 _).mono ?_
  rintro e w1 ⟨rfl, rfl⟩
  go_wp2_with fail
  refine (rotl_down x n hn1 hn _).mono ?_
  rintro e w1 ⟨rfl, rfl⟩
  go_wp2_with fail
  go_ret
  exact ⟨ret_u32 (xor3_ret _ _ _), rfl⟩
theorem bitI (x : BitVec 32) (k : Nat) : ((x.toNat : Int) / 2 ^ k).tmod 2 = ((x.getLsbD k).toNat : Int) := by
  have h2 : (x.getLsbD k).toNat = x.toNat / 2 ^ k % 2 := by
    show (x.toNat.testBit k).toNat = _
    rw [Nat.testBit_eq_decide_div_mod_eq]
    by_cases h : x.toNat / 2 ^ k % 2 = 1
    · rw [decide_eq_true h, h]; rfl
    · rw [decide_eq_false h]; simp; omega
  have e : (x.toNat : Int) / 2 ^ k = ((x.toNat / 2 ^ k : Nat) : Int) := by rw [Int.natCast_ediv, Int.natCast_pow]; rfl
  rw [h2, e]
  generalize x.toNat / 2 ^ k = q
  rw [Int.tmod_eq_emod_of_nonneg (by omega)]
  omega
theorem up_bit (x : BitVec 32) (k : Nat) (h : k < 32) (b : Int) (hb : ((x.getLsbD k).toNat : Int) = b) : (((x.toNat % 2 ^ k : Nat) : Int) + b * 2 ^ k % 4294967296) % 4294967296 = ((x.toNat % 2 ^ (k + 1) : Nat) : Int) := by
  subst hb
  have hl := Sha.low_succ x k
  have hx := x.isLt
  have h3 : x.toNat % 2 ^ (k + 1) ≤ x.toNat := Nat.mod_le _ _
  have e : ((x.getLsbD k).toNat : Int) * 2 ^ k = (((x.getLsbD k).toNat * 2 ^ k : Nat) : Int) := by rw [Int.natCast_mul, Int.natCast_pow]; rfl
  rw [e]
  generalize (x.getLsbD k).toNat * 2 ^ k = B at *
  generalize x.toNat % 2 ^ k = M at *
  generalize x.toNat % 2 ^ (k + 1) = N at *
  omega
theorem up_yes (x : BitVec 32) (k : Nat) (h : k < 32) (hb : x.getLsbD k = true) : (((x.toNat : Int) % 2 ^ k) + 2 ^ k % 4294967296) % 4294967296 = ((x.toNat % 2 ^ (k + 1) : Nat) : Int) := by
  have := up_bit x k h 1 (by rw [hb]; rfl)
  rw [Int.one_mul] at this
  rw [← this, Int.natCast_emod, Int.natCast_pow]
  rfl
theorem up_no (x : BitVec 32) (k : Nat) (hb : x.getLsbD k = false) : x.toNat % 2 ^ k = x.toNat % 2 ^ (k + 1) := by
  rw [Sha.low_succ x k, hb]
  simp
theorem maj_yes (a b c : BitVec 32) (k : Nat) (h : 2 ≤ (((a.toNat : Int) / 2 ^ k).tmod 2 + ((b.toNat : Int) / 2 ^ k).tmod 2 + ((c.toNat : Int) / 2 ^ k).tmod 2) % 4294967296) : (Sha.maj a b c).getLsbD k = true := by
  rw [bitI, bitI, bitI] at h
  rw [Sha.maj_bit]
  simp
  omega
theorem maj_no (a b c : BitVec 32) (k : Nat) (h : (((a.toNat : Int) / 2 ^ k).tmod 2 + ((b.toNat : Int) / 2 ^ k).tmod 2 + ((c.toNat : Int) / 2 ^ k).tmod 2) % 4294967296 < 2) : (Sha.maj a b c).getLsbD k = false := by
  rw [bitI, bitI, bitI] at h
  rw [Sha.maj_bit]
  have := (a.getLsbD k).toNat_lt
  have := (b.getLsbD k).toNat_lt
  have := (c.getLsbD k).toNat_lt
  simp
  omega
set_option maxHeartbeats 400000 in
theorem most_any (a b c : BitVec 32) (w : World) :
    Calls Try.prog 43 #[.int .u32 (a.toNat : Int), .int .u32 (b.toNat : Int), .int .u32 (c.toNat : Int)] w fun e w' => e = .returned (.int .u32 ((Sha.maj a b c).toNat : Int)) ∧ w = w' := by
  have ha := a.isLt
  have hb := b.isLt
  have hc := c.isLt
  go_enter Try.func43, Try.ntmps43
  go_wp2
  go_loop [7, 8] (fun o t => ∃ k : Nat, k ≤ 32 ∧ t = .int .u64 k ∧ o = .int .u32 (((Sha.maj a b c).toNat % 2 ^ k : Nat) : Int)) (fun _ t => 32 - (intOf t).toNat)
  case atStart => exact ⟨0, by omega, rfl, by rw [Nat.pow_zero, Nat.mod_one]; rfl⟩
  case round =>
    obtain ⟨k, hk, rfl, rfl⟩ := hrel
    by_cases hlt : k < 32
    · go_wp2
      · have h : 2 ≤ (((a.toNat : Int) / 2 ^ k).tmod 2 + ((b.toNat : Int) / 2 ^ k).tmod 2 + ((c.toNat : Int) / 2 ^ k).tmod 2) % 4294967296 := by assumption
        go_round
        case rel => exact ⟨k + 1, by omega, by go_num, by rw [up_yes _ k hlt (maj_yes a b c k h)]⟩
        case measure => simp [intOf]; omega
      · have h : (((a.toNat : Int) / 2 ^ k).tmod 2 + ((b.toNat : Int) / 2 ^ k).tmod 2 + ((c.toNat : Int) / 2 ^ k).tmod 2) % 4294967296 < 2 := by assumption
        go_round
        case rel => exact ⟨k + 1, by omega, by go_num, by rw [up_no _ k (maj_no a b c k h)]⟩
        case measure => simp [intOf]; omega
    · obtain rfl : k = 32 := by omega
      rw [Sha.low_all]
      go_wp2
      go_ret
      exact ⟨rfl, rfl⟩
set_option maxHeartbeats 400000 in
theorem picked_any (a b c : BitVec 32) (w : World) :
    Calls Try.prog 42 #[.int .u32 (a.toNat : Int), .int .u32 (b.toNat : Int), .int .u32 (c.toNat : Int)] w fun e w' => e = .returned (.int .u32 ((Sha.ch a b c).toNat : Int)) ∧ w = w' := by
  have ha := a.isLt
  have hb := b.isLt
  have hc := c.isLt
  go_enter Try.func42, Try.ntmps42
  go_wp2
  go_loop [7, 8] (fun o t => ∃ k : Nat, k ≤ 32 ∧ t = .int .u64 k ∧ o = .int .u32 (((Sha.ch a b c).toNat % 2 ^ k : Nat) : Int)) (fun _ t => 32 - (intOf t).toNat)
  case atStart => exact ⟨0, by omega, rfl, by rw [Nat.pow_zero, Nat.mod_one]; rfl⟩
  case round =>
    obtain ⟨k, hk, rfl, rfl⟩ := hrel
    by_cases hlt : k < 32
    · go_wp2
      · have h : ((a.toNat : Int) / 2 ^ k).tmod 2 == 1 := by assumption
        rw [bitI] at h
        have hb : ((b.toNat : Int) / 2 ^ k).tmod 2 = (((Sha.ch a b c).getLsbD k).toNat : Int) := by
          rw [bitI, Sha.ch_bit, if_pos]
          cases he : a.getLsbD k
          · rw [he] at h; cases h
          · rfl
        go_round
        case rel => exact ⟨k + 1, by omega, by go_num, by rw [hb, ← up_bit _ k hlt _ rfl, Int.natCast_emod, Int.natCast_pow]; rfl⟩
        case measure => simp [intOf]; omega
      · have h : (((a.toNat : Int) / 2 ^ k).tmod 2 == 1) = false := by assumption
        rw [bitI] at h
        have hb : ((c.toNat : Int) / 2 ^ k).tmod 2 = (((Sha.ch a b c).getLsbD k).toNat : Int) := by
          rw [bitI, Sha.ch_bit, if_neg]
          cases he : a.getLsbD k
          · simp
          · rw [he] at h; cases h
        go_round
        case rel => exact ⟨k + 1, by omega, by go_num, by rw [hb, ← up_bit _ k hlt _ rfl, Int.natCast_emod, Int.natCast_pow]; rfl⟩
        case measure => simp [intOf]; omega
    · obtain rfl : k = 32 := by omega
      rw [Sha.low_all]
      go_wp2
      go_ret
      exact ⟨rfl, rfl⟩
end Go.Proofs.Ytfconncnccgenaa
