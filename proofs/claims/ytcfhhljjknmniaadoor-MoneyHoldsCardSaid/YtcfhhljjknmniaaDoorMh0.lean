/- money: plain laws of sums, shares and parts. -/
import Derived.Test.YtcfhhljjknmniaaDoorMp4
set_option linter.unusedVariables false
set_option linter.unusedSimpArgs false
namespace Go.Proofs.YtcfhhljjknmniaaDoor
open Go.RowKit
theorem amts3 {a b c : Int} (h : amts [a, b, c] = true) : (0 ≤ a ∧ a ≤ 1125899906842624) ∧ (0 ≤ b ∧ b ≤ 1125899906842624) ∧ (0 ≤ c ∧ c ≤ 1125899906842624) := by
  have h1 := amts_mem h a (by simp)
  have h2 := amts_mem h b (by simp)
  have h3 := amts_mem h c (by simp)
  unfold maxAmt at h1 h2 h3
  exact ⟨h1, h2, h3⟩
theorem amts_swap (a b c : Int) : amts [c, a, b] = amts [a, b, c] := by
  unfold amts
  simp only [List.any_cons, List.any_nil, Bool.or_false]
  cases bad maxAmt a <;> cases bad maxAmt b <;> cases bad maxAmt c <;> rfl
theorem add_swap (a b c : Int) : addS [c, a, b] = addS [a, b, c] := by
  unfold addS
  rw [amts_swap]
  have : ([c, a, b] : List Int).sum = [a, b, c].sum := by simp; omega
  rw [this]
theorem add_ok {a b c : Int} (h : amts [a, b, c] = true) (hs : a + (b + c) ≤ 1125899906842624) : addS [a, b, c] = (a + (b + c), 0) := by
  unfold addS maxAmt
  have e : ([a, b, c] : List Int).sum = a + (b + c) := by simp
  rw [h, e, if_pos rfl, if_neg (by omega)]
theorem add_no {a b c : Int} (h : amts [a, b, c] = true) (hs : ¬ a + (b + c) ≤ 1125899906842624) : addS [a, b, c] = (0, 150) := by
  unfold addS maxAmt
  have e : ([a, b, c] : List Int).sum = a + (b + c) := by simp
  rw [h, e, if_pos rfl, if_pos (by omega)]
theorem less_back {a b c : Int} (h : amts [a, b, c] = true) (hs : a + (b + c) ≤ 1125899906842624) : lessS (a + (b + c)) [b, c] = (a, 0) := by
  obtain ⟨h1, h2, h3⟩ := amts3 h
  have hx : amts [a + (b + c), b, c] = true := by
    simp [amts, bad, maxAmt]
    omega
  have e : ([b, c] : List Int).sum = b + c := by simp
  unfold lessS
  rw [hx, e, if_pos rfl, if_neg (by omega)]
  congr 1
  omega
theorem share_laws (a x y : Nat) (h : x + y ≤ 1000000) : a * x / 1000000 + a * y / 1000000 ≤ a * (x + y) / 1000000 ∧ a * (x + y) / 1000000 ≤ a * x / 1000000 + a * y / 1000000 + 1 ∧ a * (x + y) / 1000000 ≤ a := by
  have e : a * (x + y) = a * x + a * y := Nat.mul_add _ _ _
  have l : a * (x + y) ≤ a * 1000000 := Nat.mul_le_mul (Nat.le_refl _) h
  generalize a * (x + y) = s at *
  generalize a * x = u at *
  generalize a * y = v at *
  omega
/-- The sum of the first k parts; the greatest part; the least so far. -/
def sumP (a m k : Nat) : Nat := k * (a / m) + min k (a % m)
theorem sumP_succ (a m k : Nat) : sumP a m (k + 1) = sumP a m k + partAt a m k := by
  unfold sumP partAt
  rw [Nat.add_mul, Nat.one_mul]
  split <;> omega
theorem sumP_all (a m : Nat) (hm : 1 ≤ m) : sumP a m m = a := by
  unfold sumP
  have h1 := Nat.mod_lt a (show 0 < m by omega)
  have h2 := Nat.div_add_mod a m
  rw [Nat.min_eq_right (by omega)]
  exact h2
theorem sumP_le (a m k : Nat) (hk : k ≤ m) : sumP a m k ≤ a := by
  unfold sumP
  have h2 := Nat.div_add_mod a m
  have h3 : k * (a / m) ≤ m * (a / m) := Nat.mul_le_mul hk (Nat.le_refl _)
  have h4 := Nat.min_le_right k (a % m)
  omega
def leastP (a m : Nat) : Nat → Int
  | 0 => -1
  | k + 1 => (partAt a m k : Nat)
def mostP (a m : Nat) : Nat → Int
  | 0 => 0
  | _ + 1 => (partAt a m 0 : Nat)
theorem part_down (a m k : Nat) : partAt a m (k + 1) ≤ partAt a m k := by
  unfold partAt
  split <;> split <;> omega
theorem part_top (a m k : Nat) : partAt a m k ≤ partAt a m 0 := by
  unfold partAt
  split <;> split <;> omega
theorem part_near (a m k : Nat) : partAt a m 0 ≤ partAt a m k + 1 := by
  unfold partAt
  split <;> split <;> omega
theorem part_le (a m k : Nat) : partAt a m k ≤ a + 1 := by
  have := Nat.div_le_self a m
  unfold partAt
  split <;> omega
theorem most_succ (a m k : Nat) : (if mostP a m k < (partAt a m k : Nat) then ((partAt a m k : Nat) : Int) else mostP a m k) = mostP a m (k + 1) := by
  cases k with
  | zero =>
    rw [show mostP a m 0 = 0 from rfl, show mostP a m (0 + 1) = ((partAt a m 0 : Nat) : Int) from rfl]
    split <;> omega
  | succ k =>
    rw [show mostP a m (k + 1) = ((partAt a m 0 : Nat) : Int) from rfl, show mostP a m (k + 1 + 1) = ((partAt a m 0 : Nat) : Int) from rfl]
    have := part_top a m (k + 1)
    split <;> omega
end Go.Proofs.YtcfhhljjknmniaaDoor
