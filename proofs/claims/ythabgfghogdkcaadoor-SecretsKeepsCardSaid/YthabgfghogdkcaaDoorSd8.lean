/- Secrets, plainly: what Raw lays is read back, and what is read is laid again. -/
import Derived.Test.YthabgfghogdkcaaDoorSd7
set_option linter.unusedVariables false
set_option linter.unusedSimpArgs false
namespace Go.Proofs.YthabgfghogdkcaaDoor
open Go.RowKit
namespace Wr
theorem val_be_take (k n : Nat) (hn : n < 2 ^ (8 * k)) : ∀ i, i ≤ k → val ((be k n).take i) = n / 2 ^ (8 * (k - i))
  | 0, _ => by rw [List.take_zero]; simp [val]; exact (Nat.div_eq_of_lt hn).symm
  | i + 1, hi => by
    rw [be_take k n i (by omega), val_snoc, val_be_take k n hn i (by omega)]
    unfold at_
    rw [UInt8.toNat_ofNat', show k - 1 - i = k - (i + 1) by omega]
    have e : 2 ^ (8 * (k - i)) = 2 ^ (8 * (k - (i + 1))) * 256 := by
      rw [show 8 * (k - i) = 8 * (k - (i + 1)) + 8 by omega, Nat.pow_add]
    rw [e, ← Nat.div_div_eq_div_mul]
    generalize n / 2 ^ (8 * (k - (i + 1))) = y
    omega
theorem val_be (k n : Nat) (hn : n < 2 ^ (8 * k)) : val (be k n) = n := by
  have h := val_be_take k n hn k (Nat.le_refl _)
  rw [List.take_of_length_le (by rw [be_len]; exact Nat.le_refl _)] at h
  simpa using h
/-- A number's bytes are read back. -/
theorem first_bytes (m : Nat) (s : List UInt8) (hm : m ≤ 4611686018427387904) : first (bytes m ++ s) = (m, ((bytes m).length : Int)) := by
  have hlen := bytes_len m
  by_cases h1 : m < 253
  · have hb : bytes m = [UInt8.ofNat m] := by rw [bytes, if_pos h1]
    have hmany : many (UInt8.ofNat m) = 0 := by
      have h : (UInt8.ofNat m).toNat = m := by rw [UInt8.toNat_ofNat']; omega
      unfold many
      rw [if_neg (by intro e; rw [e] at h; simp at h; omega), if_neg (by intro e; rw [e] at h; simp at h; omega), if_neg (by intro e; rw [e] at h; simp at h; omega)]
    rw [hb, List.singleton_append, first, if_pos hmany]
    simp
    omega
  · have key : ∀ (c : UInt8) (k : Nat), many c = k → k ≠ 0 → bytes m = c :: be k m → m < 2 ^ (8 * k) → first (bytes m ++ s) = (m, ((bytes m).length : Int)) := fun c k hk h0 hb hlt => by
      have hl : (bytes m).length = 1 + k := by rw [hb]; simp [be_len]; omega
      have ht : (be k m ++ s).take k = be k m := by rw [List.take_append_of_le_length (by rw [be_len]; exact Nat.le_refl _), List.take_of_length_le (by rw [be_len]; exact Nat.le_refl _)]
      have hf : first ((c :: be k m) ++ s) = (m, 1 + (k : Int)) := by
        rw [List.cons_append, first, hk, if_neg h0, if_neg (by rw [List.length_append, be_len]; omega), ht, val_be k m hlt, hl, if_neg (by simp; omega)]
      rw [hb, hf]
      simp [be_len]
      omega
    by_cases h2 : m < 65536
    · exact key 253 2 (by decide) (by decide) (by rw [bytes, if_neg h1, if_pos h2]) (by simpa using h2)
    · by_cases h3 : m < 4294967296
      · exact key 254 4 (by decide) (by decide) (by rw [bytes, if_neg h1, if_neg h2, if_pos h3]) (by simpa using h3)
      · exact key 255 8 (by decide) (by decide) (by rw [bytes, if_neg h1, if_neg h2, if_neg h3]) (by omega)
theorem be_succ (k n : Nat) : be (k + 1) n = be k (n / 256) ++ [UInt8.ofNat n] := by
  unfold be
  rw [List.range_succ, List.map_append, List.map_singleton]
  congr 1
  · apply List.map_congr_left
    intro i hi
    have hi := List.mem_range.1 hi
    unfold at_
    rw [Nat.div_div_eq_div_mul, show (256 : Nat) * 2 ^ (8 * (k - 1 - i)) = 2 ^ (8 * (k + 1 - 1 - i)) from by
      rw [show 8 * (k + 1 - 1 - i) = 8 + 8 * (k - 1 - i) from by omega, Nat.pow_add]]
  · unfold at_
    simp
theorem be_val : ∀ (n : Nat) (l : List UInt8), l.length = n → be n (val l) = l
  | 0, l, h => by
    rw [List.eq_nil_of_length_eq_zero h]; rfl
  | n + 1, l, h => by
    have hne : l ≠ [] := fun e => by rw [e] at h; cases h
    obtain ⟨l', c, rfl⟩ : ∃ l' c, l = l' ++ [c] := ⟨l.dropLast, l.getLast hne, (List.dropLast_concat_getLast hne).symm⟩
    have hl : l'.length = n := by simpa using h
    have hc := c.toNat_lt
    rw [be_succ, val_snoc, show (256 * val l' + c.toNat) / 256 = val l' from by omega, be_val n l' hl]
    congr 2
    apply UInt8.toNat.inj
    rw [UInt8.toNat_ofNat']
    omega
/-- The bytes that a number was read from are its bytes. -/
theorem first_back (l : List UInt8) (h : 0 < (first l).2) : l.take (first l).2.toNat = bytes (first l).1 := by
  rcases l with _ | ⟨c, r⟩
  · simp [first] at h
  · rw [first] at h ⊢
    by_cases h0 : many c = 0
    · rw [if_pos h0]
      have hc : c.toNat < 253 := by
        have h1 := c.toNat_lt
        unfold many at h0
        split at h0
        · cases h0
        · split at h0
          · cases h0
          · split at h0
            · cases h0
            · rename_i a b d
              rcases Nat.lt_or_ge c.toNat 253 with h2 | h2
              · exact h2
              · exfalso
                have h3 : c.toNat = 253 ∨ c.toNat = 254 ∨ c.toNat = 255 := by omega
                rcases h3 with h3 | h3 | h3
                · exact a (UInt8.toNat.inj h3)
                · exact b (UInt8.toNat.inj h3)
                · exact d (UInt8.toNat.inj h3)
      show [c] = bytes c.toNat
      rw [bytes, if_pos hc]
      simp
    · rw [if_neg h0] at h ⊢
      by_cases h1 : r.length < many c
      · rw [if_pos h1] at h; exact absurd h (by decide)
      · rw [if_neg h1] at h ⊢
        have hb := be_val (many c) (r.take (many c)) (by rw [List.length_take]; omega)
        generalize val (r.take (many c)) = v at *
        by_cases h2 : 4611686018427387904 < v ∨ (bytes v).length ≠ 1 + many c
        · rw [if_pos h2] at h; exact absurd h (by decide)
        · rw [if_neg h2]
          have h3 : (bytes v).length = 1 + many c := by
            rcases Nat.decEq (bytes v).length (1 + many c) with h4 | h4
            · exact absurd (.inr h4) h2
            · exact h4
          have e : (1 + (many c : Int)).toNat = many c + 1 := by omega
          show (c :: r).take (1 + (many c : Int)).toNat = bytes v
          rw [e, List.take_succ_cons, ← hb]
          have hl := bytes_len v
          rw [h3] at hl
          have hm : (c = 253 ∧ many c = 2) ∨ (c = 254 ∧ many c = 4) ∨ (c = 255 ∧ many c = 8) := by
            unfold many at h0 ⊢
            by_cases a : c = 253
            · exact .inl ⟨a, if_pos a⟩
            · rw [if_neg a] at h0 ⊢
              by_cases b : c = 254
              · exact .inr (.inl ⟨b, if_pos b⟩)
              · rw [if_neg b] at h0 ⊢
                by_cases d : c = 255
                · exact .inr (.inr ⟨d, if_pos d⟩)
                · rw [if_neg d] at h0; exact absurd rfl h0
          by_cases g1 : v < 253
          · rw [if_pos g1] at hl; omega
          · rw [if_neg g1] at hl
            rw [bytes, if_neg g1]
            by_cases g2 : v < 65536
            · rw [if_pos g2] at hl ⊢
              rcases hm with ⟨rfl, hm⟩ | ⟨rfl, hm⟩ | ⟨rfl, hm⟩
              · rw [hm]
              · omega
              · omega
            · rw [if_neg g2] at hl ⊢
              by_cases g3 : v < 4294967296
              · rw [if_pos g3] at hl ⊢
                rcases hm with ⟨rfl, hm⟩ | ⟨rfl, hm⟩ | ⟨rfl, hm⟩
                · omega
                · rw [hm]
                · omega
              · rw [if_neg g3] at hl ⊢
                rcases hm with ⟨rfl, hm⟩ | ⟨rfl, hm⟩ | ⟨rfl, hm⟩
                · omega
                · omega
                · rw [hm]
end Wr
end Go.Proofs.YthabgfghogdkcaaDoor
