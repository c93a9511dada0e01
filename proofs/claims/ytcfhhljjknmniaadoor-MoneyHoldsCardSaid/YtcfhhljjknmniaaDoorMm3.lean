/- money: half of two. -/
import Derived.Test.YtcfhhljjknmniaaDoorMm2
set_option linter.unusedVariables false
set_option linter.unusedSimpArgs false
namespace Go.Proofs.YtcfhhljjknmniaaDoor
open Go.RowKit
theorem and_xor : ∀ (n x y : Nat), x ≤ n → 2 * (x &&& y) + (x ^^^ y) = x + y
  | 0, x, y, h => by
    obtain rfl : x = 0 := by omega
    simp
  | n + 1, x, y, h => by
    rcases Nat.eq_zero_or_pos x with rfl | hp
    · simp
    · have ih := and_xor n (x / 2) (y / 2) (by omega)
      have a1 : (x &&& y) / 2 = x / 2 &&& y / 2 := by simpa using Nat.and_div_two_pow (a := x) (b := y) (n := 1)
      have a2 : (x ^^^ y) / 2 = x / 2 ^^^ y / 2 := by simpa using Nat.xor_div_two_pow (a := x) (b := y) (n := 1)
      have b1 : (x &&& y) % 2 = x % 2 &&& y % 2 := by simpa using Nat.and_mod_two_pow (a := x) (b := y) (n := 1)
      have b2 : (x ^^^ y) % 2 = x % 2 ^^^ y % 2 := by simpa using Nat.xor_mod_two_pow (a := x) (b := y) (n := 1)
      rw [← a1, ← a2] at ih
      clear a1 a2
      generalize x &&& y = p at *
      generalize x ^^^ y = q at *
      have c00 : (0 : Nat) &&& 0 = 0 := rfl
      have c01 : (0 : Nat) &&& 1 = 0 := rfl
      have c10 : (1 : Nat) &&& 0 = 0 := rfl
      have c11 : (1 : Nat) &&& 1 = 1 := rfl
      have d00 : (0 : Nat) ^^^ 0 = 0 := rfl
      have d01 : (0 : Nat) ^^^ 1 = 1 := rfl
      have d10 : (1 : Nat) ^^^ 0 = 1 := rfl
      have d11 : (1 : Nat) ^^^ 1 = 0 := rfl
      rcases Nat.mod_two_eq_zero_or_one x with hx | hx <;> rcases Nat.mod_two_eq_zero_or_one y with hy | hy
      · rw [hx, hy, c00] at b1; rw [hx, hy, d00] at b2; omega
      · rw [hx, hy, c01] at b1; rw [hx, hy, d01] at b2; omega
      · rw [hx, hy, c10] at b1; rw [hx, hy, d10] at b2; omega
      · rw [hx, hy, c11] at b1; rw [hx, hy, d11] at b2; omega
theorem i64_and_nat (a b : Nat) (ha : a < 9223372036854775808) (hb : b < 9223372036854775808) : bits .and .i64 (a : Int) (b : Int) = ((a &&& b : Nat) : Int) := by
  have hx : a &&& b < 2 ^ 63 := Nat.and_lt_two_pow _ (by omega)
  show IntKind.i64.wrap ((BitVec.ofInt 64 (a : Int) &&& BitVec.ofInt 64 (b : Int)).toNat : Int) = _
  rw [BitVec.toNat_and, ofInt_u64 a (by omega), ofInt_u64 b (by omega)]
  exact IntWalk.i64_in _ (by omega)
theorem i64_xor_nat (a b : Nat) (ha : a < 9223372036854775808) (hb : b < 9223372036854775808) : bits .xor .i64 (a : Int) (b : Int) = ((a ^^^ b : Nat) : Int) := by
  have hx : a ^^^ b < 2 ^ 63 := Nat.xor_lt_two_pow (by omega) (by omega)
  show IntKind.i64.wrap ((BitVec.ofInt 64 (a : Int) ^^^ BitVec.ofInt 64 (b : Int)).toNat : Int) = _
  rw [BitVec.toNat_xor, ofInt_u64 a (by omega), ofInt_u64 b (by omega)]
  exact IntWalk.i64_in _ (by omega)
theorem one_any (A : Option Addr) (n c : Nat) (zs : List Int) (w : World) (hn : zs.length = n) (hm : n ≤ 9223372036854775807) (hr : RdV w A (zs.map numV)) :
    Calls Tryd.prog 40 #[.slice A n c] w fun e w' => e = .returned (.int .i64 (if amts zs then 1 else 0)) ∧ Below w.heap.size w w' := by
  have hi := check_any A n c zs w hn hm hr
  clear hr hn
  cases hb : amts zs with
  | true =>
    rw [hb] at hi
    go_enter Tryd.func40, Tryd.ntmps40
    go_wp2_with (first
      | (go_at_call 16; refine hi.mono ?_; clear hi; rintro e w' ⟨rfl, hL⟩)
      | fail)
    go_ret
    exact ⟨rfl, hL⟩
  | false =>
    rw [hb] at hi
    go_enter Tryd.func40, Tryd.ntmps40
    go_wp2_with (first
      | (go_at_call 16; refine hi.mono ?_; clear hi; rintro e w' ⟨rfl, hL⟩)
      | fail)
    go_ret
    exact ⟨rfl, hL⟩
def midS (a b : Int) : Int × Int := if amts [a, b] then ((a + b) / 2, 0) else (0, 2)
theorem mid_bits {a b : Int} (h : amts [a, b] = true) : bits .and .i64 a b + bits .xor .i64 a b / 2 = (a + b) / 2 ∧ 0 ≤ bits .and .i64 a b ∧ 0 ≤ bits .xor .i64 a b ∧ bits .xor .i64 a b < 9223372036854775808 := by
  have ha := amts_mem h a (by simp)
  have hb := amts_mem h b (by simp)
  unfold maxAmt at ha hb
  obtain ⟨x, rfl⟩ := Int.eq_ofNat_of_zero_le ha.1
  obtain ⟨y, rfl⟩ := Int.eq_ofNat_of_zero_le hb.1
  have h1 := i64_and_nat x y (by omega) (by omega)
  have h2 := i64_xor_nat x y (by omega) (by omega)
  have h3 := and_xor x x y (Nat.le_refl _)
  have h4 : x ^^^ y < 2 ^ 63 := Nat.xor_lt_two_pow (by omega) (by omega)
  show bits .and .i64 (x : Int) (y : Int) + bits .xor .i64 (x : Int) (y : Int) / 2 = ((x : Int) + (y : Int)) / 2 ∧ _
  rw [h1, h2]
  omega
set_option maxRecDepth 100000 in
theorem mid_any (a b : Int) (w : World) :
    Calls Tryd.prog 24 #[.int .i64 a, .int .i64 b] w fun e w' => e = .returned (.tuple #[.int .i64 (midS a b).1, .int .i64 (midS a b).2]) ∧ Below w.heap.size w w' := by
  refine Calls.post fun Φ HΦ => ?_
  have hL0 := (Later.refl w).alloc (.cells #[.int .i64 a, .int .i64 b] 2)
  have hone := one_any (some ⟨w.heap.size, 0, none⟩) 2 2 [a, b] _ rfl (by omega) (rd2Z a b w)
  have hck := fun W => check_any (some ⟨World.heap W |>.size, 0, none⟩) 2 2 [a, b] _ rfl (by omega) (rd2Z a b W)
  cases ha : amts [a, b] with
  | false =>
    rw [ha] at hone
    simp only [ha] at hck
    have hS : midS a b = (0, 2) := by simp [midS, ha]
    rw [hS] at HΦ
    go_enter Tryd.func24, Tryd.ntmps24
    go_wp2_with (first
      | (refine wpList_buildSl rfl 22 2 _ rfl #[(0, .int .i64 a), (1, .int .i64 b)] rfl (build2Z a b _) ?_)
      | (go_at_call 40; refine hone.mono ?_; clear hone; rintro e w1 ⟨rfl, hL1⟩)
      | (go_at_call 16; refine (hck _).mono ?_; clear hck; rintro e w2 ⟨rfl, hL2⟩)
      | fail)
    exact HΦ.out _ _ ⟨rfl, ((hL0.step hL1).step ((Later.refl w1).alloc _)).step hL2⟩
  | true =>
    rw [ha] at hone
    simp only [ha] at hck
    obtain ⟨hm1, hm2, hm3, hm4⟩ := mid_bits ha
    have h1 := amts_mem ha a (by simp)
    have h2 := amts_mem ha b (by simp)
    unfold maxAmt at h1 h2
    have hS : midS a b = ((a + b) / 2, 0) := by simp [midS, ha]
    have HS := Lib.hid hS
    have HM := Lib.hid (And.intro hm1 (And.intro hm2 (And.intro hm3 hm4)))
    clear hS hm1 hm2 hm3 hm4
    go_enter Tryd.func24, Tryd.ntmps24
    go_wp2_with (first
      | (refine wpList_buildSl rfl 22 2 _ rfl #[(0, .int .i64 a), (1, .int .i64 b)] rfl (build2Z a b _) ?_)
      | (go_at_call 40; refine hone.mono ?_; clear hone; rintro e w1 ⟨rfl, hL1⟩)
      | (go_at_call 16; refine (hck _).mono ?_; clear hck; rintro e w2 ⟨rfl, hL2⟩)
      | fail)
    refine HΦ.out _ _ ⟨?_, ((hL0.step hL1).step ((Later.refl w1).alloc _)).step hL2⟩
    obtain ⟨hm1, hm2, hm3, hm4⟩ := HM.out
    rw [HS.out]
    show Ending.returned (.tuple #[.int .i64 _, .int .i64 0]) = _
    rw [hm1]
    have hw := IntWalk.i64_in ((a + b) / 2) (by omega)
    have hw2 : wrap64 ((a + b) / 2) = (a + b) / 2 := by simp only [wrap64]; omega
    rw [hw2, hw2]
set_option maxRecDepth 100000 in
theorem refMid_any (a b : Int) (w : World) :
    Calls Tryd.prog 25 #[.int .i64 a, .int .i64 b] w fun e w' => e = .returned (.tuple #[.int .i64 (midS a b).1, .int .i64 (midS a b).2]) ∧ w = w' := by
  refine Calls.post fun Φ HΦ => ?_
  have hra := right5_any a w
  have hrb := right5_any b w
  have hab : amts [a, b] = (!bad maxAmt a && !bad maxAmt b) := by rw [amts_cons, amts_cons]; simp [amts]
  cases ha : bad maxAmt a with
  | true =>
    have hS : midS a b = (0, 2) := by simp [midS, hab, ha]
    rw [hS] at HΦ
    rw [ha] at hra
    go_enter Tryd.func25, Tryd.ntmps25
    go_wp2_with (first
      | (go_at_call 14; refine hra.mono ?_; clear hra; rintro e w1 ⟨rfl, rfl⟩)
      | fail)
    exact HΦ.out _ _ ⟨rfl, rfl⟩
  | false =>
    cases hb : bad maxAmt b with
    | true =>
      have hS : midS a b = (0, 2) := by simp [midS, hab, ha, hb]
      rw [hS] at HΦ
      rw [ha] at hra
      rw [hb] at hrb
      go_enter Tryd.func25, Tryd.ntmps25
      go_wp2_with (first
        | (go_at_call 14; refine hra.mono ?_; clear hra; rintro e w1 ⟨rfl, rfl⟩)
        | (go_at_call 14; refine hrb.mono ?_; clear hrb; rintro e w1 ⟨rfl, rfl⟩)
        | fail)
      exact HΦ.out _ _ ⟨rfl, rfl⟩
    | false =>
      have hok : amts [a, b] = true := by rw [hab, ha, hb]; rfl
      have hS : midS a b = ((a + b) / 2, 0) := by simp [midS, hok]
      have h1 := amts_mem hok a (by simp)
      have h2 := amts_mem hok b (by simp)
      unfold maxAmt at h1 h2
      have hw := IntWalk.i64_in (a + b) (by omega)
      rw [ha] at hra
      rw [hb] at hrb
      have HS := Lib.hid hS
      clear hS
      go_enter Tryd.func25, Tryd.ntmps25
      go_wp2_with (first
        | (go_at_call 14; refine hra.mono ?_; clear hra; rintro e w1 ⟨rfl, rfl⟩)
        | (go_at_call 14; refine hrb.mono ?_; clear hrb; rintro e w1 ⟨rfl, rfl⟩)
        | fail)
      refine HΦ.out _ _ ⟨?_, rfl⟩
      rw [HS.out]
      show Ending.returned (.tuple #[.int .i64 _, .int .i64 0]) = _
      congr 4
end Go.Proofs.YtcfhhljjknmniaaDoor
