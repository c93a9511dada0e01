/- Secrets, plainly: a keep's bytes. -/
import Derived.Test.YthabgfghogdkcaaDoorSd8
set_option linter.unusedVariables false
set_option linter.unusedSimpArgs false
namespace Go.Proofs.YthabgfghogdkcaaDoor
open Go.RowKit
theorem Sec.has_iff {c k : Nat} (hc : c ≤ 2147483648) : Sec.hasB c k = true ↔ k < Sec.width c := ⟨Sec.has_width hc, Sec.width_has⟩
theorem Sec.filter_has (c : Nat) (hc : c ≤ 2147483648) : ∀ k, (List.range k).filter (Sec.hasB c) = List.range (min k (Sec.width c))
  | 0 => by rw [Nat.zero_min]; rfl
  | k + 1 => by
    rw [List.range_succ, List.filter_append, Sec.filter_has c hc k]
    rcases hb : Sec.hasB c k with _ | _
    · have h : ¬ k < Sec.width c := fun h => by rw [Sec.width_has h] at hb; cases hb
      rw [List.filter_cons_of_neg (by rw [hb]; decide), List.filter_nil, List.append_nil, show min (k + 1) (Sec.width c) = min k (Sec.width c) from by omega]
    · have h := Sec.has_width hc hb
      rw [List.filter_cons_of_pos hb, List.filter_nil, show min (k + 1) (Sec.width c) = min k (Sec.width c) + 1 from by omega, List.range_succ, show min k (Sec.width c) = k from by omega]
theorem Sec.items_all (c : Nat) (hc : c ≤ 2147483648) (ix : Nat → Nat) (sc : Nat → List UInt8) : Sec.items c ix sc 32 = (List.range (Sec.width c)).map fun p => (2147483647 - (ix p : Int), sc p) := by
  have hw := Sec.width_le c
  unfold Sec.items
  rw [Sec.filter_has c hc, show min 32 (Sec.width c) = Sec.width c from by omega]
theorem Sec.items_count (c : Nat) (hc : c ≤ 2147483648) (ix : Nat → Nat) (sc : Nat → List UInt8) : (Sec.items c ix sc 32).length = Sec.width c := by
  rw [Sec.items_all c hc]
  simp
theorem Sec.items_le (c : Nat) (ix : Nat → Nat) (sc : Nat → List UInt8) (k : Nat) : (Sec.items c ix sc k).length ≤ k := by
  unfold Sec.items
  rw [List.length_map]
  have := List.length_filter_le (Sec.hasB c) (List.range k)
  rw [List.length_range] at this
  exact this
/-- So many pieces, one behind the other. -/
def Sec.flat (f : Nat → List UInt8) (n : Nat) : List UInt8 := ((List.range n).map f).flatten
theorem Sec.flat_succ (f : Nat → List UInt8) (n : Nat) : Sec.flat f (n + 1) = Sec.flat f n ++ f n := by
  unfold Sec.flat
  rw [List.range_succ, List.map_append, List.flatten_append]
  simp
theorem Sec.flat_len {f : Nat → List UInt8} (hf : ∀ p, (f p).length = 32) : ∀ n, (Sec.flat f n).length = 32 * n
  | 0 => rfl
  | n + 1 => by rw [Sec.flat_succ, List.length_append, Sec.flat_len hf n, hf]; omega
theorem Sec.flat_at {f : Nat → List UInt8} (hf : ∀ p, (f p).length = 32) : ∀ n p, p < n → ∃ r, Sec.flat f n = Sec.flat f p ++ (f p ++ r)
  | 0, p, h => absurd h (by omega)
  | n + 1, p, h => by
    rw [Sec.flat_succ]
    rcases Nat.lt_or_ge p n with h1 | h1
    · obtain ⟨r, e⟩ := Sec.flat_at hf n p h1
      exact ⟨r ++ f n, by rw [e, List.append_assoc, List.append_assoc]⟩
    · obtain rfl : p = n := by omega
      exact ⟨[], by rw [List.append_nil]⟩
theorem Sec.flat_get {f : Nat → List UInt8} (hf : ∀ p, (f p).length = 32) {n p : Nat} (h : p < n) : ((Sec.flat f n).drop (32 * p)).take 32 = f p := by
  obtain ⟨r, e⟩ := Sec.flat_at hf n p h
  rw [e, List.drop_left' (Sec.flat_len hf p), List.take_left' (hf p)]
theorem Sec.chunks (l : List UInt8) : ∀ n, 32 * n ≤ l.length → Sec.flat (fun p => (l.drop (32 * p)).take 32) n = l.take (32 * n)
  | 0, _ => rfl
  | n + 1, h => by
    rw [Sec.flat_succ, Sec.chunks l n (by omega), show 32 * (n + 1) = 32 * n + 32 from by omega, List.take_add]
theorem Sec.raw_flat (c : Nat) (hc : c ≤ 2147483648) (ix : Nat → Nat) (sc : Nat → List UInt8) : Sec.raw c ix sc = Wr.bytes c ++ Sec.flat sc (Sec.width c) := by
  unfold Sec.raw Sec.flat
  rw [Sec.items_all c hc, List.map_map]
  rfl
theorem Sec.flat_congr {f g : Nat → List UInt8} : ∀ n, (∀ p, p < n → f p = g p) → Sec.flat f n = Sec.flat g n
  | 0, _ => rfl
  | n + 1, h => by rw [Sec.flat_succ, Sec.flat_succ, Sec.flat_congr n (fun p hp => h p (by omega)), h n (by omega)]
/-- What is read is laid again. -/
theorem Sec.raw_back (b : List UInt8) (h : Sec.readOk b = true) : Sec.raw (Sec.readN b) (Sec.ixK (Sec.readN b) (Sec.width (Sec.readN b))) (Sec.scK (Sec.readL b) (Sec.width (Sec.readN b))) = b ∧ Sec.readN b ≤ 2147483648 := by
  unfold Sec.readOk at h
  simp only [Bool.and_eq_true, decide_eq_true_eq] at h
  obtain ⟨⟨h0, h1⟩, h2⟩ := h
  have hN : Sec.readN b ≤ 2147483648 := by
    rcases Sec.numR_cases b with ⟨_, _, _, h3⟩ | h3
    · exact h3
    · rw [h3] at h0; exact absurd h0 (by decide)
  refine ⟨?_, hN⟩
  have hm : Wr.may b 2147483648 := by
    unfold Wr.numR at h0
    rw [if_neg (by decide), if_neg (by decide)] at h0
    by_cases h3 : Wr.may b 2147483648
    · exact h3
    · rw [if_neg h3] at h0; exact absurd h0 (show ¬ ((140 : Int) = 0) by decide)
  have hR : Wr.numR b false 2147483648 = ((b.drop (Wr.first b).2.toNat, false), ((Wr.first b).1 : Int), 0) := by
    unfold Wr.numR
    rw [if_neg (by decide), if_neg (by decide), if_pos hm]
  have e1 : Sec.readN b = (Wr.first b).1 := by unfold Sec.readN; rw [hR]; rfl
  have e2 : Sec.readL b = b.drop (Wr.first b).2.toNat := by unfold Sec.readL; rw [hR]
  have hfb := Wr.first_back b hm.1
  rw [Sec.raw_flat _ hN, Sec.flat_congr (g := fun p => ((Sec.readL b).drop (32 * p)).take 32) _ (fun p hp => by unfold Sec.scK; rw [if_pos hp]), Sec.chunks _ _ (by omega), List.take_of_length_le (by omega), e1, e2, ← hfb, List.take_append_drop]
/- a keep of a seed -/
theorem Sec.keptSc_len (l : List UInt8) (hl : l.length = 32) (c p : Nat) : (Sec.keptSc l c p).length = 32 := by
  unfold Sec.keptSc
  split
  · exact Sec.D_len _ _ hl
  · simp [Sha.zeros]
theorem Sec.seed_read (l : List UInt8) (hl : l.length = 32) (c : Nat) (hc : c ≤ 2147483648) :
    Sec.readN (Sec.raw c (Sec.keptIx c) (Sec.keptSc l c)) = c ∧ Sec.readL (Sec.raw c (Sec.keptIx c) (Sec.keptSc l c)) = Sec.flat (Sec.keptSc l c) (Sec.width c) ∧ (Wr.numR (Sec.raw c (Sec.keptIx c) (Sec.keptSc l c)) false 2147483648).2.2 = 0 := by
  rw [Sec.raw_flat c hc]
  have hf := Wr.first_bytes c (Sec.flat (Sec.keptSc l c) (Sec.width c)) (by omega)
  have hlen : 0 < (Wr.bytes c).length := by rw [Wr.bytes_len]; split <;> (try split) <;> (try split) <;> omega
  have hm : Wr.may (Wr.bytes c ++ Sec.flat (Sec.keptSc l c) (Sec.width c)) 2147483648 := by
    unfold Wr.may
    rw [hf]
    exact ⟨by simpa using hlen, by simp; omega⟩
  have hR : Wr.numR (Wr.bytes c ++ Sec.flat (Sec.keptSc l c) (Sec.width c)) false 2147483648 = ((Sec.flat (Sec.keptSc l c) (Sec.width c), false), (c : Int), 0) := by
    unfold Wr.numR
    rw [if_neg (by decide), if_neg (by decide), if_pos hm, hf]
    simp
  refine ⟨?_, ?_, ?_⟩
  · unfold Sec.readN; rw [hR]; rfl
  · unfold Sec.readL; rw [hR]
  · rw [hR]
theorem Sec.seed_ix (c : Nat) (hc : c ≤ 2147483648) : Sec.ixK c (Sec.width c) = Sec.keptIx c := by
  funext p
  unfold Sec.ixK Sec.keptIx
  by_cases h : p < Sec.width c
  · have h1 := Sec.width_has h
    unfold Sec.hasB at h1
    rw [if_pos h, if_pos (of_decide_eq_true h1)]
  · rw [if_neg h, if_neg (fun h1 => h (Sec.has_width hc (by unfold Sec.hasB; exact decide_eq_true h1)))]
theorem Sec.seed_sc (l : List UInt8) (hl : l.length = 32) (c : Nat) (hc : c ≤ 2147483648) : Sec.scK (Sec.flat (Sec.keptSc l c) (Sec.width c)) (Sec.width c) = Sec.keptSc l c := by
  funext p
  unfold Sec.scK
  by_cases h : p < Sec.width c
  · rw [if_pos h, Sec.flat_get (Sec.keptSc_len l hl c) h]
  · rw [if_neg h]
    unfold Sec.keptSc
    rw [if_neg (fun h1 => h (Sec.has_width hc (by unfold Sec.hasB; exact decide_eq_true h1)))]
def Sec.okFit (c p : Nat) : Bool := !(decide (0 < c / 2 ^ p)) || ((decide (Sec.keptIx c p % 2 ^ p = 0)) && (List.range p).all fun q => decide (Sec.keptIx c q ≤ Sec.keptIx c p) || (decide (0 < c / 2 ^ q) && decide (Sec.keptIx c p / 2 ^ p = Sec.keptIx c q / 2 ^ p)))
theorem Sec.okFit_all : ((List.range 201).all fun c => (List.range 32).all (Sec.okFit c)) = true := by decide +kernel
theorem Sec.seed_fits (l : List UInt8) (c : Nat) (hc : c ≤ 200) : ∀ p, p < 32 → Sec.hasB c p = true → Sec.fitB (Sec.keptIx c) (Sec.keptSc l c) p p = true := by
  intro p hp hb
  have h := List.all_eq_true.1 (List.all_eq_true.1 Sec.okFit_all c (List.mem_range.2 (by omega))) p (List.mem_range.2 hp)
  unfold Sec.hasB at hb
  have hb := of_decide_eq_true hb
  unfold Sec.okFit at h
  rw [decide_eq_true hb] at h
  simp only [Bool.not_true, Bool.false_or, Bool.and_eq_true, decide_eq_true_eq] at h
  obtain ⟨h1, h2⟩ := h
  unfold Sec.fitB
  rw [List.all_eq_true]
  intro q hq
  have hq := List.mem_range.1 hq
  have h3 := List.all_eq_true.1 h2 q (List.mem_range.2 hq)
  unfold Sec.fitOne
  rcases Bool.or_eq_true_iff.1 h3 with h4 | h4
  · rw [h4]; rfl
  · simp only [Bool.and_eq_true, decide_eq_true_eq] at h4
    obtain ⟨h5, h6⟩ := h4
    have e1 : Sec.keptSc l c p = Sec.D l (Sec.keptIx c p) := by unfold Sec.keptSc Sec.keptIx; rw [if_pos hb, if_pos hb]
    have e2 : Sec.keptSc l c q = Sec.D l (Sec.keptIx c q) := by unfold Sec.keptSc Sec.keptIx; rw [if_pos h5, if_pos h5]
    have hd : Sec.down (Sec.D l (Sec.keptIx c p)) p (Sec.keptIx c q) = Sec.D l (Sec.keptIx c q) := Sec.down_near l 31 _ _ _ (by omega) h6 h1
    rw [e1, e2, hd, beq_self_eq_true, Bool.or_true]
/-- What a seed's keep lays is read. -/
theorem Sec.seed_ok (l : List UInt8) (hl : l.length = 32) (c : Nat) (hc : c ≤ 200) : Sec.readOk (Sec.raw c (Sec.keptIx c) (Sec.keptSc l c)) = true := by
  obtain ⟨h1, h2, h3⟩ := Sec.seed_read l hl c (by omega)
  unfold Sec.readOk
  rw [h1, h2, h3, Sec.flat_len (Sec.keptSc_len l hl c)]
  simp only [decide_true, Bool.true_and]
  unfold Sec.fitsTo
  rw [List.all_eq_true]
  intro p hp
  unfold Sec.fitsK
  rw [Sec.seed_ix c (by omega), Sec.seed_sc l hl c (by omega)]
  rcases hb : Sec.hasB c p with _ | _
  · rfl
  · rw [Sec.seed_fits l c hc p (List.mem_range.1 hp) hb]; rfl
end Go.Proofs.YthabgfghogdkcaaDoor
