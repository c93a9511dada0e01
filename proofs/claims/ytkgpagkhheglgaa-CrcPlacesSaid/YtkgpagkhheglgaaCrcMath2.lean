/- The plain mathematics of a word so many noughts on: the product of two words, the matrix of a number of steps; of bits that are turned. No program in sight. -/
import Derived.Test.YtkgpagkhheglgaaCrcMath
set_option linter.unusedVariables false
namespace Go.Proofs.Ytkgpagkhheglgaa.Crc

/-- The xor of those of f 0 .. f (k-1) that are picked. -/
def pick (p : Nat → Bool) (f : Nat → BitVec 32) : Nat → BitVec 32
  | 0 => 0#32
  | k + 1 => pick p f k ^^^ (if p k then f k else 0#32)
theorem pick_steps (p : Nat → Bool) (f : Nat → BitVec 32) (m k : Nat) : pick p (fun i => steps m (f i)) k = steps m (pick p f k) := by
  induction k with
  | zero => simp [pick, steps_zero]
  | succ k ih =>
    rw [pick, pick, ih, steps_xor]
    congr 1
    split <;> simp [steps_zero]
theorem pick_congr {p q : Nat → Bool} {f g : Nat → BitVec 32} : ∀ (k : Nat), (∀ i, i < k → p i = q i) → (∀ i, i < k → f i = g i) → pick p f k = pick q g k
  | 0, _, _ => rfl
  | k + 1, hp, hf => by
    rw [pick, pick, pick_congr k (fun i hi => hp i (by omega)) (fun i hi => hf i (by omega)), hp k (by omega), hf k (by omega)]

def one : BitVec 32 := 0x80000000#32
theorem one_bit (i : Nat) : one.getLsbD i = decide (i = 31) := by
  by_cases h : i < 32
  · have : ∀ j : Fin 32, one.getLsbD j.val = decide (j.val = 31) := by decide
    exact this ⟨i, h⟩
  · rw [BitVec.getLsbD_of_ge _ _ (by omega), decide_eq_false (by omega)]
theorem steps_one (i : Nat) (h : i ≤ 31) : steps i one = one >>> i := steps_low i one fun j hj => by rw [one_bit, decide_eq_false (by omega)]
def times (a b : BitVec 32) : BitVec 32 := pick (fun i => a.getLsbD (31 - i)) (fun i => steps i b) 32
theorem pick_high (a : BitVec 32) (k : Nat) (hk : k ≤ 32) (j : Nat) : (pick (fun i => a.getLsbD (31 - i)) (fun i => steps i one) k).getLsbD j = (a.getLsbD j && decide (32 ≤ j + k)) := by
  induction k with
  | zero =>
    by_cases h : j < 32
    · simp [pick]; intro _; omega
    · simp [pick, BitVec.getLsbD_of_ge a j (by omega)]
  | succ k ih =>
    rw [pick, BitVec.getLsbD_xor, ih (by omega), steps_one k (by omega)]
    by_cases h1 : j + k = 31
    · obtain rfl : j = 31 - k := by omega
      rw [decide_eq_false (by omega : ¬ 32 ≤ 31 - k + k), decide_eq_true (by omega : 32 ≤ 31 - k + (k + 1))]
      cases h : a.getLsbD (31 - k)
      · simp
      · simp only [if_true, BitVec.getLsbD_ushiftRight, one_bit]
        rw [decide_eq_true (by omega)]; rfl
    · have h2 : (decide (32 ≤ j + (k + 1))) = decide (32 ≤ j + k) := by
        by_cases h3 : 32 ≤ j + k
        · rw [decide_eq_true h3, decide_eq_true (by omega)]
        · rw [decide_eq_false h3, decide_eq_false (by omega)]
      rw [h2]
      have h3 : (if a.getLsbD (31 - k) then one >>> k else 0#32).getLsbD j = false := by
        split
        · rw [BitVec.getLsbD_ushiftRight, one_bit, decide_eq_false (by omega)]
        · simp
      rw [h3]; simp
theorem times_one (a : BitVec 32) : times a one = a := by
  apply BitVec.eq_of_getLsbD_eq
  intro j hj
  unfold times
  rw [pick_high a 32 (by omega) j, decide_eq_true (by omega)]; simp
theorem steps_comm (m n : Nat) (x : BitVec 32) : steps m (steps n x) = steps n (steps m x) := by
  rw [← steps_add, ← steps_add, Nat.add_comm]
/-- A word so many steps on is its product with one that many steps on. -/
theorem times_pw (a : BitVec 32) (m : Nat) : times a (steps m one) = steps m a := by
  unfold times
  rw [pick_congr 32 (q := fun i => a.getLsbD (31 - i)) (g := fun i => steps m (steps i one)) (fun _ _ => rfl) (fun i _ => steps_comm i m one), pick_steps]
  exact congrArg _ (times_one a)
theorem pw_twice (m : Nat) : times (steps m one) (steps m one) = steps (2 * m) one := by rw [times_pw, ← steps_add, Nat.two_mul]
theorem pw_eight : steps 8 one = 0x800000#32 := by decide

/- a matrix: column i is what comes of the bit i -/
def bit (i : Nat) : BitVec 32 := BitVec.twoPow 32 i
theorem pick_low (a : BitVec 32) (k j : Nat) (hj : j < 32) : (pick (fun i => a.getLsbD i) bit k).getLsbD j = (a.getLsbD j && decide (j < k)) := by
  induction k with
  | zero => simp [pick]
  | succ k ih =>
    rw [pick, BitVec.getLsbD_xor, ih]
    by_cases h1 : j = k
    · subst h1
      rw [decide_eq_false (Nat.lt_irrefl _), decide_eq_true (Nat.lt_succ_self _)]
      cases h : a.getLsbD j
      · simp
      · simp [bit, hj]
    · have h2 : decide (j < k + 1) = decide (j < k) := by
        by_cases h3 : j < k
        · rw [decide_eq_true h3, decide_eq_true (by omega)]
        · rw [decide_eq_false h3, decide_eq_false (by omega)]
      rw [h2]
      have h3 : (if a.getLsbD k then bit k else 0#32).getLsbD j = false := by
        split
        · unfold bit; rw [BitVec.getLsbD_twoPow, decide_eq_false (by omega : ¬ k = j)]; simp
        · simp
      rw [h3]; simp
theorem pick_bits (a : BitVec 32) : pick (fun i => a.getLsbD i) bit 32 = a := by
  apply BitVec.eq_of_getLsbD_eq
  intro j hj
  rw [pick_low a 32 j hj, decide_eq_true hj]; simp
theorem by_steps (a : BitVec 32) (m : Nat) : pick (fun i => a.getLsbD i) (fun i => steps m (bit i)) 32 = steps m a := by
  rw [pick_steps, pick_bits]

/- noughts -/
def far (x : BitVec 32) (n : Nat) : BitVec 32 := steps (8 * n) x
theorem far_zero (x : BitVec 32) : far x 0 = x := rfl
theorem far_xor (x y : BitVec 32) (n : Nat) : far (x ^^^ y) n = far x n ^^^ far y n := steps_xor _ _ _
theorem far_add (x : BitVec 32) (m n : Nat) : far x (m + n) = far (far x m) n := by
  unfold far; rw [← steps_add, Nat.mul_add, Nat.add_comm]
theorem byteOn_zero (x : BitVec 32) : byteOn x 0 = steps 8 x := by
  unfold byteOn
  rw [show zx 0 = 0#32 from by decide, BitVec.xor_zero]
theorem mod_pow_succ (n k : Nat) : n % 2 ^ (k + 1) = n % 2 ^ k + (if n / 2 ^ k % 2 = 1 then 2 ^ k else 0) := by
  rw [Nat.mod_pow_succ]
  rcases Nat.mod_two_eq_zero_or_one (n / 2 ^ k) with h | h
  · rw [h]; simp
  · rw [h]; simp
theorem run_zeros (x : BitVec 32) (n : Nat) : run x (List.replicate n 0) = far x n := by
  induction n generalizing x with
  | zero => rfl
  | succ n ih =>
    rw [List.replicate_succ]
    show run (byteOn x 0) (List.replicate n 0) = _
    rw [ih, byteOn_zero]
    unfold far
    rw [← steps_add, Nat.mul_succ]
theorem byteOn_xor (x y : BitVec 32) (c : UInt8) : byteOn (x ^^^ y) c = byteOn x c ^^^ steps 8 y := by
  unfold byteOn
  rw [show x ^^^ y ^^^ zx c = (x ^^^ zx c) ^^^ y from by rw [BitVec.xor_assoc, BitVec.xor_assoc, BitVec.xor_comm y], steps_xor]
theorem run_xor (l : List UInt8) : ∀ (x y : BitVec 32), run (x ^^^ y) l = run x l ^^^ far y l.length := by
  induction l with
  | nil => intro x y; rfl
  | cons c l ih =>
    intro x y
    show run (byteOn (x ^^^ y) c) l = run (byteOn x c) l ^^^ _
    rw [byteOn_xor, ih]
    congr 1
    unfold far
    rw [← steps_add, List.length_cons, Nat.mul_succ]

end Go.Proofs.Ytkgpagkhheglgaa.Crc
