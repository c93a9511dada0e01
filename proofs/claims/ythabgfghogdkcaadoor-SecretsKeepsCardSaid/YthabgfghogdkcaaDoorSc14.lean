/- Secrets, plainly: the keep of a seed, put by put, and what it tells. -/
import Derived.Test.YthabgfghogdkcaaDoorSc13
set_option linter.unusedVariables false
set_option linter.unusedSimpArgs false
namespace Go.Proofs.YthabgfghogdkcaaDoor
open Go.RowKit
theorem Sec.put_facts (c : Nat) (hc : c < 201) : Sec.place (2147483647 - c) < 32 ∧ 0 < (c + 1) / 2 ^ Sec.place (2147483647 - c) ∧ Sec.ixOf (c + 1) (Sec.place (2147483647 - c)) = 2147483647 - c ∧ (2147483647 - c) % 2 ^ Sec.place (2147483647 - c) = 0 ∧
    ∀ p, p < 32 → p = Sec.place (2147483647 - c) ∨ (Sec.keptIx (c + 1) p = Sec.keptIx c p ∧ (0 < (c + 1) / 2 ^ p ↔ 0 < c / 2 ^ p) ∧ (Sec.place (2147483647 - c) < p ∨ Sec.keptIx c p ≤ 2147483647 - c ∨ (0 < c / 2 ^ p ∧ Sec.keptIx c p / 2 ^ Sec.place (2147483647 - c) = (2147483647 - c) / 2 ^ Sec.place (2147483647 - c)))) := by
  have h := List.all_eq_true.1 Sec.okPut_all c (List.mem_range.2 hc)
  unfold Sec.okPut at h
  simp only [Bool.and_eq_true, decide_eq_true_eq] at h
  obtain ⟨⟨⟨⟨h1, h2⟩, h3⟩, h4⟩, h5⟩ := h
  refine ⟨h1, h2, h3, h4, fun p hp => ?_⟩
  have h6 := List.all_eq_true.1 h5 p (List.mem_range.2 hp)
  rcases Bool.or_eq_true_iff.1 h6 with h7 | h7
  · exact .inl (by simpa using h7)
  · obtain ⟨h8, h9⟩ := Bool.and_eq_true_iff.1 h7
    obtain ⟨h10, h11⟩ := Bool.and_eq_true_iff.1 h8
    refine .inr ⟨by simpa using h10, decide_eq_decide.1 (beq_iff_eq.1 h11), ?_⟩
    rcases Bool.or_eq_true_iff.1 h9 with h12 | h12
    · rcases Bool.or_eq_true_iff.1 h12 with h13 | h13
      · exact .inl (by simpa using h13)
      · exact .inr (.inl (by simpa using h13))
    · obtain ⟨h13, h14⟩ := Bool.and_eq_true_iff.1 h12
      exact .inr (.inr ⟨by simpa using h13, by simpa using h14⟩)
theorem Sec.kept_far (c p : Nat) (hc : c < 4294967296) (hp : 32 ≤ p) : ¬ 0 < c / 2 ^ p := by
  have : 2 ^ 32 ≤ 2 ^ p := Nat.pow_le_pow_right (by decide) hp
  rw [Nat.div_eq_of_lt (by omega)]
  decide
theorem Sec.keptIx_step (c : Nat) (hc : c < 201) : updF (Sec.keptIx c) (Sec.place (2147483647 - c)) (2147483647 - c) = Sec.keptIx (c + 1) := by
  obtain ⟨h1, h2, h3, h4, h5⟩ := Sec.put_facts c hc
  funext p
  unfold updF
  by_cases hp : p = Sec.place (2147483647 - c)
  · rw [if_pos hp, hp]
    unfold Sec.keptIx
    rw [if_pos h2, h3]
  · rw [if_neg hp]
    by_cases h32 : p < 32
    · rcases h5 p h32 with h | ⟨h, _⟩
      · exact absurd h hp
      · exact h.symm
    · unfold Sec.keptIx
      rw [if_neg (Sec.kept_far c p (by omega) (by omega)), if_neg (Sec.kept_far (c + 1) p (by omega) (by omega))]
theorem Sec.keptSc_step (seed : List UInt8) (c : Nat) (hc : c < 201) : updF (Sec.keptSc seed c) (Sec.place (2147483647 - c)) (Sec.D seed (2147483647 - c)) = Sec.keptSc seed (c + 1) := by
  obtain ⟨h1, h2, h3, h4, h5⟩ := Sec.put_facts c hc
  funext p
  unfold updF
  by_cases hp : p = Sec.place (2147483647 - c)
  · rw [if_pos hp, hp]
    unfold Sec.keptSc
    rw [if_pos h2, h3]
  · rw [if_neg hp]
    by_cases h32 : p < 32
    · rcases h5 p h32 with h | ⟨h, h', _⟩
      · exact absurd h hp
      · unfold Sec.keptIx at h
        unfold Sec.keptSc
        by_cases hh : 0 < c / 2 ^ p
        · rw [if_pos hh, if_pos (h'.2 hh)]
          rw [if_pos hh, if_pos (h'.2 hh)] at h
          rw [h]
        · rw [if_neg hh, if_neg (fun k => hh (h'.1 k))]
    · unfold Sec.keptSc
      rw [if_neg (Sec.kept_far c p (by omega) (by omega)), if_neg (Sec.kept_far (c + 1) p (by omega) (by omega))]
theorem Sec.kept_fits (seed : List UInt8) (c : Nat) (hc : c < 201) : Sec.fitB (Sec.keptIx (c + 1)) (Sec.keptSc seed (c + 1)) (Sec.place (2147483647 - c)) (Sec.place (2147483647 - c)) = true := by
  obtain ⟨h1, h2, h3, h4, h5⟩ := Sec.put_facts c hc
  unfold Sec.fitB
  rw [List.all_eq_true]
  intro a ha
  have ha := List.mem_range.1 ha
  have hix : Sec.keptIx (c + 1) (Sec.place (2147483647 - c)) = 2147483647 - c := by unfold Sec.keptIx; rw [if_pos h2, h3]
  have hsc : Sec.keptSc seed (c + 1) (Sec.place (2147483647 - c)) = Sec.D seed (2147483647 - c) := by unfold Sec.keptSc; rw [if_pos h2, h3]
  unfold Sec.fitOne
  rw [hix, hsc]
  rcases h5 a (by omega) with h | ⟨h, h', h6⟩
  · omega
  · rcases h6 with h7 | h7 | ⟨h7, h8⟩
    · omega
    · rw [h, decide_eq_true h7]; rfl
    · have hd : Sec.down (Sec.D seed (2147483647 - c)) (Sec.place (2147483647 - c)) (Sec.keptIx (c + 1) a) = Sec.keptSc seed (c + 1) a := by
        rw [h]
        have e1 : Sec.down (Sec.D seed (2147483647 - c)) (Sec.place (2147483647 - c)) (Sec.keptIx c a) = Sec.D seed (Sec.keptIx c a) := Sec.down_near seed 31 _ _ _ (by omega) h8.symm h4
        rw [e1, ← h]
        unfold Sec.keptSc Sec.keptIx
        rw [if_pos (h'.2 h7), if_pos (h'.2 h7)]
      rw [hd, beq_self_eq_true, Bool.or_true]
theorem Sec.get_facts (seed : List UInt8) (c m : Nat) (hc : c < 201) (hm : m < c) : ∃ a, a < 32 ∧ Sec.hit (Sec.keptIx c) (2147483647 - m) a = true ∧ (∀ k, k < a → Sec.hit (Sec.keptIx c) (2147483647 - m) k = false) ∧ Sec.down (Sec.keptSc seed c a) a (2147483647 - m) = Sec.D seed (2147483647 - m) := by
  have h := List.all_eq_true.1 (List.all_eq_true.1 Sec.okGet_all c (List.mem_range.2 hc)) m (List.mem_range.2 hm)
  unfold Sec.okGet at h
  simp only [Bool.and_eq_true, decide_eq_true_eq] at h
  obtain ⟨⟨⟨⟨h1, h2⟩, h3⟩, h4⟩, h5⟩ := h
  obtain ⟨h6, h7⟩ := Sec.findAt_spec (Sec.keptIx c) (2147483647 - m) 32 0 _ rfl (by omega)
  refine ⟨_, h1, h6, fun k hk => h7 k (by omega) hk, ?_⟩
  generalize Sec.findAt (Sec.keptIx c) (2147483647 - m) 32 0 = a at *
  have hk : Sec.keptSc seed c a = Sec.D seed (Sec.keptIx c a) := by
    unfold Sec.keptSc Sec.keptIx
    rw [if_pos h2, if_pos h2]
  rw [hk]
  exact Sec.down_near seed 31 a _ _ (by omega) h5 h4
theorem Sec.keptIx_zero : Sec.keptIx 0 = ix0 := by
  funext p
  unfold Sec.keptIx ix0
  rw [Nat.zero_div, if_neg (by decide)]
theorem Sec.keptSc_zero (seed : List UInt8) : Sec.keptSc seed 0 = sc0 := by
  funext p
  unfold Sec.keptSc sc0
  rw [Nat.zero_div, if_neg (by decide)]
theorem eqlAny (x : List UInt8) (hx : x = [] ∨ x.length = 32) (w : World) : (binOp .eql 23 (.agg (hC x)) (.agg (hC x))).run Tryd.prog w = .ok (.bool true) w := by
  rcases hx with rfl | hx
  · exact eqlHH w
  · exact eqlSame x hx w
theorem Sec.secR_or (seed : List UInt8) (n : Int) (h : seed.length = 32) : (Sec.secR seed n).1 = [] ∨ (Sec.secR seed n).1.length = 32 := by
  unfold Sec.secR
  split
  · exact .inr (Sec.D_len _ _ h)
  · exact .inl rfl
end Go.Proofs.YthabgfghogdkcaaDoor
