/- The plain mathematics of bits that are turned: within 32 bits that follow one another the sums are unlike, and what is sealed is not opened. No program in sight. -/
import Derived.Test.YtkgpagkhheglgaaCrcMath2
set_option linter.unusedVariables false
namespace Go.Proofs.Ytkgpagkhheglgaa.Crc

theorem step_inj0 (x : BitVec 32) (h : step x = 0#32) : x = 0#32 := by
  unfold step at h
  cases h0 : x.getLsbD 0
  · rw [h0] at h
    simp only [Bool.false_eq_true, if_false, BitVec.xor_zero] at h
    apply BitVec.eq_of_getLsbD_eq
    intro i hi
    rcases i with _ | i
    · rw [h0]; simp
    · have : (x >>> 1).getLsbD i = false := by rw [h]; simp
      rw [BitVec.getLsbD_ushiftRight] at this
      rw [Nat.add_comm 1 i] at this
      rw [this]; simp
  · rw [h0] at h
    simp only [if_true] at h
    have h31 : ((x >>> 1) ^^^ poly).getLsbD 31 = true := by
      rw [BitVec.getLsbD_xor, BitVec.getLsbD_ushiftRight, BitVec.getLsbD_of_ge x _ (by omega)]
      decide
    rw [h] at h31
    simp at h31
theorem steps_inj0 (n : Nat) (x : BitVec 32) (h : steps n x = 0#32) : x = 0#32 := by
  induction n with
  | zero => exact h
  | succ n ih => exact ih (step_inj0 _ h)
theorem xor_eq_zero {x y : BitVec 32} (h : x ^^^ y = 0#32) : x = y := by
  have : x ^^^ y ^^^ y = 0#32 ^^^ y := by rw [h]
  rwa [BitVec.xor_assoc, BitVec.xor_self, BitVec.xor_zero, BitVec.zero_xor] at this
theorem steps_inj (n : Nat) (x y : BitVec 32) (h : steps n x = steps n y) : x = y := by
  apply xor_eq_zero
  apply steps_inj0 n
  rw [steps_xor, h, BitVec.xor_self]

/- a bit turned -/
def flip (p : Nat) (l : List UInt8) : List UInt8 := l.modify (p / 8) (fun c => c ^^^ (1 <<< UInt8.ofNat (p % 8)))
theorem flip_len (p : Nat) (l : List UInt8) : (flip p l).length = l.length := by simp [flip]
theorem zx_xor (c d : UInt8) : zx (c ^^^ d) = zx c ^^^ zx d := by
  unfold zx
  apply BitVec.eq_of_getLsbD_eq
  intro i hi
  simp only [BitVec.getLsbD_setWidth, BitVec.getLsbD_xor, hi, decide_true, Bool.true_and]
  rw [show (c ^^^ d).toBitVec = c.toBitVec ^^^ d.toBitVec from rfl, BitVec.getLsbD_xor]
theorem byteOn_turn (w : BitVec 32) (c d : UInt8) : byteOn w (c ^^^ d) = byteOn w c ^^^ steps 8 (zx d) := by
  unfold byteOn
  rw [zx_xor, ← BitVec.xor_assoc, steps_xor]
theorem zx_bit (j : Nat) (h : j < 8) : zx (1 <<< UInt8.ofNat j) = bit j := by
  have : ∀ j : Fin 8, zx (1 <<< UInt8.ofNat j.val) = bit j.val := by decide
  exact this ⟨j, h⟩
theorem bit_low (j : Nat) (h : j < 32) : steps j (bit j) = bit 0 := by
  rw [steps_low]
  · have : ∀ j : Fin 32, bit j.val >>> j.val = bit 0 := by decide
    exact this ⟨j, h⟩
  · intro i hi
    unfold bit
    rw [BitVec.getLsbD_twoPow, decide_eq_false (by omega : ¬ j = i)]; simp
theorem bit_steps (j m : Nat) (h : j < 32) (hm : j ≤ m) : steps m (bit j) = steps (m - j) (bit 0) := by
  rw [← bit_low j h, ← steps_add]
  congr 1
  omega
theorem run_flip (w : BitVec 32) (p : Nat) (l : List UInt8) (h : p < 8 * l.length) : run w (flip p l) = run w l ^^^ steps (8 * l.length - p) (bit 0) := by
  have hi : p / 8 < l.length := by omega
  have e1 : l = l.take (p / 8) ++ (l[p / 8] :: l.drop (p / 8 + 1)) := by
    rw [List.getElem_cons_drop, List.take_append_drop]
  have e2 : flip p l = l.take (p / 8) ++ ((l[p / 8] ^^^ (1 <<< UInt8.ofNat (p % 8))) :: l.drop (p / 8 + 1)) := by
    unfold flip
    rw [List.modify_eq_take_cons_drop hi]
  rw [e2]
  conv => rhs; rw [e1]
  rw [run_append, run_append]
  show run (byteOn _ _) _ = run (byteOn _ _) _ ^^^ _
  rw [byteOn_turn, run_xor]
  congr 1
  rw [zx_bit _ (by omega), bit_steps _ _ (by omega) (by omega)]
  unfold far
  rw [← steps_add]
  congr 1
  have hl : (l.take (p / 8) ++ l[p / 8] :: l.drop (p / 8 + 1)).length = l.length := by rw [← e1]
  rw [hl, List.length_drop]
  omega

/- a burst: of the 32 bits from the place on those that are picked, as far as there are such -/
def hits (first : Nat) (b : Nat → Bool) (n i : Nat) : Bool := b i && decide (first + i < 8 * n)
def burst (first : Nat) (b : Nat → Bool) : Nat → List UInt8 → List UInt8
  | 0, l => l
  | k + 1, l => if hits first b l.length k then flip (first + k) (burst first b k l) else burst first b k l
theorem burst_len (first : Nat) (b : Nat → Bool) (k : Nat) (l : List UInt8) : (burst first b k l).length = l.length := by
  induction k with
  | zero => rfl
  | succ k ih =>
    rw [burst]
    split
    · rw [flip_len, ih]
    · exact ih
def turnedTo (first : Nat) (b : Nat → Bool) (n : Nat) : Nat → Bool
  | 0 => false
  | k + 1 => turnedTo first b n k || hits first b n k
theorem turned_bit (first : Nat) (b : Nat → Bool) (n k : Nat) (h : turnedTo first b n k = false) (i : Nat) (hi : i < k) : hits first b n i = false := by
  induction k with
  | zero => omega
  | succ k ih =>
    rw [turnedTo, Bool.or_eq_false_iff] at h
    by_cases e : i = k
    · subst e; exact h.2
    · exact ih h.1 (by omega)
theorem turned_some (first : Nat) (b : Nat → Bool) (n k : Nat) (h : turnedTo first b n k = true) : ∃ i, i < k ∧ hits first b n i = true := by
  induction k with
  | zero => simp [turnedTo] at h
  | succ k ih =>
    rw [turnedTo, Bool.or_eq_true] at h
    rcases h with h | h
    · obtain ⟨i, h1, h2⟩ := ih h
      exact ⟨i, by omega, h2⟩
    · exact ⟨k, by omega, h⟩
theorem burst_not (first : Nat) (b : Nat → Bool) (k : Nat) (l : List UInt8) (h : turnedTo first b l.length k = false) : burst first b k l = l := by
  induction k with
  | zero => rfl
  | succ k ih =>
    rw [turnedTo, Bool.or_eq_false_iff] at h
    rw [burst, if_neg (by rw [h.2]; simp), ih h.1]
theorem pick_bit (p : Nat → Bool) (k j : Nat) (hj : j < 32) : (pick p bit k).getLsbD j = (p j && decide (j < k)) := by
  induction k with
  | zero => simp [pick]
  | succ k ih =>
    rw [pick, BitVec.getLsbD_xor, ih]
    by_cases h1 : j = k
    · subst h1
      rw [decide_eq_false (Nat.lt_irrefl _), decide_eq_true (Nat.lt_succ_self _)]
      cases h : p j
      · simp
      · simp [bit, hj]
    · have h2 : decide (j < k + 1) = decide (j < k) := by
        by_cases h3 : j < k
        · rw [decide_eq_true h3, decide_eq_true (by omega)]
        · rw [decide_eq_false h3, decide_eq_false (by omega)]
      rw [h2]
      have h3 : (if p k then bit k else 0#32).getLsbD j = false := by
        split
        · unfold bit; rw [BitVec.getLsbD_twoPow, decide_eq_false (by omega : ¬ k = j)]; simp
        · simp
      rw [h3]; simp
theorem run_burst (w : BitVec 32) (first : Nat) (b : Nat → Bool) (k : Nat) (l : List UInt8) (hk : k ≤ 32) : run w (burst first b k l) = run w l ^^^ steps (8 * l.length - first) (pick (hits first b l.length) bit k) := by
  induction k with
  | zero => simp [burst, pick, steps_zero]
  | succ k ih =>
    rw [burst, pick]
    cases h : hits first b l.length k
    · simp only [Bool.false_eq_true, if_false, BitVec.xor_zero]
      exact ih (by omega)
    · simp only [if_true]
      have hlt : first + k < 8 * l.length := by
        unfold hits at h
        simp at h
        exact h.2
      rw [run_flip _ _ _ (by rw [burst_len]; exact hlt), ih (by omega), steps_xor, BitVec.xor_assoc, burst_len]
      congr 2
      rw [bit_steps k _ (by omega) (by omega)]
      congr 1
      omega
/-- Bytes that differ within 32 bits that follow one another: the words are unlike. -/
theorem burst_unlike (w : BitVec 32) (first : Nat) (b : Nat → Bool) (l : List UInt8) (h : turnedTo first b l.length 32 = true) : run w (burst first b 32 l) ≠ run w l := by
  intro e
  rw [run_burst w first b 32 l (by omega)] at e
  have e2 : run w l ^^^ (run w l ^^^ steps (8 * l.length - first) (pick (hits first b l.length) bit 32)) = run w l ^^^ run w l := by rw [e]
  rw [← BitVec.xor_assoc, BitVec.xor_self, BitVec.zero_xor] at e2
  have e3 := steps_inj0 _ _ e2
  obtain ⟨i, hi, hh⟩ := turned_some _ _ _ _ h
  have e4 := pick_bit (hits first b l.length) 32 i hi
  rw [e3, hh, decide_eq_true hi] at e4
  simp at e4
theorem flip_take (p n : Nat) (l : List UInt8) (h : p < 8 * n) : (flip p l).take n = flip p (l.take n) := by
  unfold flip
  rw [List.take_modify]
theorem flip_take_no (p n : Nat) (l : List UInt8) (h : 8 * n ≤ p) : (flip p l).take n = l.take n := by
  unfold flip
  rw [List.take_modify]
  exact List.modify_eq_self (by rw [List.length_take]; omega)
theorem burst_take (first : Nat) (b : Nat → Bool) (k n : Nat) (l : List UInt8) (hn : n ≤ l.length) : (burst first b k l).take n = burst first b k (l.take n) := by
  have hl : (l.take n).length = n := by rw [List.length_take]; omega
  induction k with
  | zero => rfl
  | succ k ih =>
    rw [burst, burst, hl]
    unfold hits
    cases hb : b k
    · simp only [Bool.false_and, Bool.false_eq_true, if_false]; exact ih
    · simp only [Bool.true_and, decide_eq_true_eq]
      by_cases h1 : first + k < 8 * n
      · rw [if_pos (by omega), if_pos h1, flip_take _ _ _ h1, ih]
      · rw [if_neg h1]
        split
        · rw [flip_take_no _ _ _ (by omega), ih]
        · exact ih
/-- Of bytes within which a burst was turned the sums are unlike. -/
theorem sum_burst (first : Nat) (b : Nat → Bool) (l : List UInt8) (h : burst first b 32 l ≠ l) : sum (burst first b 32 l) ≠ sum l := by
  cases ht : turnedTo first b l.length 32
  · exact absurd (burst_not first b 32 l ht) h
  · intro e
    apply burst_unlike (~~~ 0#32) first b l ht
    unfold sum more at e
    have : ~~~ (~~~ (run (~~~ 0#32) (burst first b 32 l))) = ~~~ (~~~ (run (~~~ 0#32) l)) := by rw [e]
    rwa [BitVec.not_not, BitVec.not_not] at this
end Go.Proofs.Ytkgpagkhheglgaa.Crc
