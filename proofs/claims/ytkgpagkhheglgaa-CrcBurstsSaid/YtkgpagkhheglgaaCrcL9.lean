/- Plain laws: what is sealed is opened, and not, if a burst was turned. -/
import Derived.Test.YtkgpagkhheglgaaCrcW5
import Derived.Test.YtkgpagkhheglgaaCrcMath3
set_option linter.unusedVariables false
namespace Go.Proofs.Ytkgpagkhheglgaa
open Go.RowKit
theorem ones : ~~~ 0#32 = BitVec.allOnes 32 := by decide
theorem xor_ones (y : BitVec 32) : y ^^^ ~~~ 0#32 = ~~~ y := by rw [ones, BitVec.xor_allOnes]
theorem xor_not (y : BitVec 32) : y ^^^ ~~~ y = ~~~ 0#32 := by rw [← xor_ones y, ← BitVec.xor_assoc, BitVec.xor_self, BitVec.zero_xor]
theorem byteAt_zx (x : BitVec 32) : Crc.zx (byteAt x 0) = x &&& 0xff#32 := by
  apply BitVec.eq_of_toNat_eq
  have h1 : (Crc.zx (byteAt x 0)).toNat = (byteAt x 0).toNat := by
    unfold Crc.zx
    rw [BitVec.toNat_setWidth]
    have := (byteAt x 0).toNat_lt
    exact Nat.mod_eq_of_lt (by show (byteAt x 0).toNat < _; omega)
  rw [h1, BitVec.toNat_and]
  show _ = x.toNat &&& 255
  rw [nat_mask8]
  unfold byteAt
  rw [UInt8.toNat_ofNat']
  simp
theorem eight (w x : BitVec 32) : Crc.steps 8 (w ^^^ x) = Crc.byteOn w (byteAt x 0) ^^^ (x >>> 8) := by
  conv => lhs; rw [← Crc.mask_split x, ← BitVec.xor_assoc, Crc.steps_xor]
  unfold Crc.byteOn
  rw [byteAt_zx]
  congr 1
  rw [Crc.steps_low]
  · apply BitVec.eq_of_getLsbD_eq
    intro i hi
    simp only [BitVec.getLsbD_ushiftRight, BitVec.getLsbD_and]
    by_cases h24 : i < 24
    · have hm : (0xffffff00#32).getLsbD (8 + i) = true := by
        have : ∀ j : Fin 24, (0xffffff00#32).getLsbD (8 + j.val) = true := by decide
        exact this ⟨i, h24⟩
      rw [hm]; simp
    · rw [BitVec.getLsbD_of_ge x _ (by omega)]; simp
  · intro i hi
    have hm : (0xffffff00#32).getLsbD i = false := by
      have : ∀ j : Fin 8, (0xffffff00#32).getLsbD j.val = false := by decide
      exact this ⟨i, hi⟩
    simp [BitVec.getLsbD_and, hm]
theorem byteAt_shr (x : BitVec 32) (k : Nat) : byteAt (x >>> 8) k = byteAt x (k + 1) := by
  unfold byteAt
  rw [BitVec.toNat_ushiftRight, Nat.shiftRight_eq_div_pow, Nat.div_div_eq_div_mul, ← Nat.pow_add, Nat.mul_add, Nat.add_comm]
theorem run_low4 (w x : BitVec 32) : Crc.run w (low4 x) = Crc.steps 32 (w ^^^ x) := by
  rw [show Crc.steps 32 (w ^^^ x) = Crc.steps (8 + (8 + (8 + 8))) (w ^^^ x) from rfl, Crc.steps_add, Crc.steps_add, Crc.steps_add, eight w x, eight _ (x >>> 8), eight _ (x >>> 8 >>> 8), eight _ (x >>> 8 >>> 8 >>> 8)]
  have hz : x >>> 8 >>> 8 >>> 8 >>> 8 = 0#32 := by
    apply BitVec.eq_of_getLsbD_eq
    intro i hi
    simp only [BitVec.getLsbD_ushiftRight]
    rw [BitVec.getLsbD_of_ge x _ (by omega)]; simp
  rw [hz, BitVec.xor_zero]
  simp only [byteAt_shr]
  rfl
theorem low4_inj {x y : BitVec 32} (h : low4 x = low4 y) : x = y := by
  unfold low4 at h
  injection h with h0 h
  injection h with h1 h
  injection h with h2 h
  injection h with h3 h
  apply BitVec.eq_of_toNat_eq
  have f : ∀ k, byteAt x k = byteAt y k → x.toNat / 2 ^ (8 * k) % 256 = y.toNat / 2 ^ (8 * k) % 256 := fun k e => by
    have e1 := byteAt_val x k
    have e2 := byteAt_val y k
    rw [e] at e1
    have h3 : ((2 ^ (8 * k) : Nat) : Int) ≠ 0 := by have := Nat.two_pow_pos (8 * k); omega
    have e3 : ((x.toNat / 2 ^ (8 * k) % 256 : Nat) : Int) = ((y.toNat / 2 ^ (8 * k) % 256 : Nat) : Int) := by
      rw [Int.natCast_emod, Int.natCast_emod, Int.natCast_ediv, Int.natCast_ediv]
      exact e1.symm.trans e2
    exact Int.ofNat.inj e3
  have g0 := f 0 h0
  have g1 := f 1 h1
  have g2 := f 2 h2
  have g3 := f 3 h3
  have hx := x.isLt
  have hy := y.isLt
  simp at g0 g1 g2 g3
  omega
theorem every4 (d : List UInt8) (h : d.length = 4) : ∃ x, d = low4 x := by
  rcases d with _ | ⟨a, _ | ⟨b, _ | ⟨c, _ | ⟨e, _ | ⟨_, _⟩⟩⟩⟩⟩ <;> simp at h
  have ha := a.toNat_lt
  have hb := b.toNat_lt
  have hc := c.toNat_lt
  have he := e.toNat_lt
  refine ⟨BitVec.ofNat 32 (a.toNat + 256 * b.toNat + 65536 * c.toNat + 16777216 * e.toNat), ?_⟩
  unfold low4 byteAt
  rw [BitVec.toNat_ofNat, Nat.mod_eq_of_lt (by omega)]
  have f : ∀ (z : UInt8) (n : Nat), n % 256 = z.toNat → z = UInt8.ofNat n := fun z n h => by
    apply UInt8.toNat_inj.1
    rw [UInt8.toNat_ofNat']
    exact h.symm
  congr 1
  · exact f _ _ (by simp; omega)
  congr 1
  · exact f _ _ (by simp; omega)
  congr 1
  · exact f _ _ (by simp; omega)
  congr 1
  · exact f _ _ (by simp; omega)
theorem openOk_run (l : List UInt8) (h : 4 ≤ l.length) : openOk l = true ↔ Crc.run (~~~ 0#32) l = Crc.steps 32 (~~~ 0#32) := by
  obtain ⟨x, hx⟩ := every4 (l.drop (l.length - 4)) (by rw [List.length_drop]; omega)
  have e : l = l.take (l.length - 4) ++ low4 x := by rw [← hx, List.take_append_drop]
  have hr : Crc.run (~~~ 0#32) l = Crc.steps 32 (Crc.run (~~~ 0#32) (l.take (l.length - 4)) ^^^ x) := by
    conv => lhs; rw [e]
    rw [Crc.run_append, run_low4]
  rw [hr]
  unfold openOk
  rw [decide_eq_true h, Bool.true_and, hx]
  have hs : Crc.sum (l.take (l.length - 4)) = ~~~ (Crc.run (~~~ 0#32) (l.take (l.length - 4))) := rfl
  rw [hs]
  generalize Crc.run (~~~ 0#32) (l.take (l.length - 4)) = y
  constructor
  · intro h
    have := low4_inj (of_decide_eq_true h)
    rw [← this, xor_not]
  · intro h
    have e2 := Crc.steps_inj _ _ _ h
    apply eqB_true
    congr 1
    have e3 : y ^^^ (y ^^^ x) = y ^^^ ~~~ 0#32 := by rw [e2]
    rw [← BitVec.xor_assoc, BitVec.xor_self, BitVec.zero_xor] at e3
    rw [e3, xor_ones]
theorem sealed_run (b : List UInt8) : Crc.run (~~~ 0#32) (b ++ low4 (Crc.sum b)) = Crc.steps 32 (~~~ 0#32) := by
  rw [Crc.run_append, run_low4]
  have hs : Crc.sum b = ~~~ (Crc.run (~~~ 0#32) b) := rfl
  rw [hs]
  rw [xor_not]
def sealed (b : List UInt8) : List UInt8 := b ++ low4 (Crc.sum b)
theorem sealed_len (b : List UInt8) : (sealed b).length = b.length + 4 := by simp [sealed, low4]
theorem open_burst (first : Nat) (f : Nat → Bool) (b : List UInt8) : openOk (Crc.burst first f 32 (sealed b)) = !(Crc.turnedTo first f (b.length + 4) 32) := by
  have hl : 4 ≤ (Crc.burst first f 32 (sealed b)).length := by rw [Crc.burst_len, sealed_len]; omega
  cases ht : Crc.turnedTo first f (b.length + 4) 32
  · have := (openOk_run _ hl).2 (by rw [Crc.burst_not _ _ _ _ (by rw [sealed_len]; exact ht)]; exact sealed_run b)
    rw [this]; rfl
  · cases ho : openOk (Crc.burst first f 32 (sealed b))
    · rfl
    · exfalso
      have h1 := (openOk_run _ hl).1 ho
      have h2 := sealed_run b
      exact Crc.burst_unlike (~~~ 0#32) first f (sealed b) (by rw [sealed_len]; exact ht) (h1.trans h2.symm)
theorem open_burstE (first : Nat) (f : Nat → Bool) (b : List UInt8) : openE (Crc.burst first f 32 (sealed b)) = if Crc.turnedTo first f (b.length + 4) 32 then 130 else 0 := by
  unfold openE
  rw [open_burst]
  cases Crc.turnedTo first f (b.length + 4) 32 <;> rfl
theorem open_burstB (first : Nat) (f : Nat → Bool) (b : List UInt8) (h : Crc.turnedTo first f (b.length + 4) 32 = false) : openB (Crc.burst first f 32 (sealed b)) = b := by
  unfold openB
  rw [open_burst, h, Crc.burst_len, sealed_len, Crc.burst_not _ _ _ _ (by rw [sealed_len]; exact h)]
  simp [sealed]
theorem burst_head (first : Nat) (f : Nat → Bool) (b : List UInt8) : (Crc.burst first f 32 (sealed b)).take b.length = Crc.burst first f 32 b := by
  rw [Crc.burst_take _ _ _ _ _ (by rw [sealed_len]; omega)]
  simp [sealed]
end Go.Proofs.Ytkgpagkhheglgaa
