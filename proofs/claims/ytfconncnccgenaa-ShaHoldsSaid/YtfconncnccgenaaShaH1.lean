/- Plain: a hash's text read back, and texts of hashes in their order. -/
import Derived.Test.YtfconncnccgenaaShaT4
set_option linter.unusedVariables false
set_option linter.unusedSimpArgs false
namespace Go.Proofs.Ytfconncnccgenaa
open Go.RowKit
theorem dig_sign (n : Nat) (h : n < 16) : dig (signB n) = (n : Int) := by
  have : ∀ n : Fin 16, dig (signB n.val) = (n.val : Int) := by decide +kernel
  exact this ⟨n, h⟩
theorem sign_dig (c : UInt8) (h : 0 ≤ dig c) : signB (dig c).toNat = c := by
  have : ∀ n : Fin 256, 0 ≤ dig (UInt8.ofNat n.val) → signB (dig (UInt8.ofNat n.val)).toNat = UInt8.ofNat n.val := by decide +kernel
  have h2 := this ⟨c.toNat, c.toNat_lt⟩
  simp only [UInt8.ofNat_toNat] at h2
  exact h2 h
def dg2 (l : List UInt8) (i : Nat) : Nat := (dig (l.getD i 0)).toNat
theorem dg2_lt (l : List UInt8) (i : Nat) : dg2 l i < 16 := by
  have := dig_bd (l.getD i 0)
  unfold dg2
  omega
def byteAt2 (l : List UInt8) (j : Nat) : UInt8 := UInt8.ofNat (dg2 l (2 * j) * 16 + dg2 l (2 * j + 1))
theorem byteAt2_nat (l : List UInt8) (j : Nat) : (byteAt2 l j).toNat = dg2 l (2 * j) * 16 + dg2 l (2 * j + 1) := by
  have h1 := dg2_lt l (2 * j)
  have h2 := dg2_lt l (2 * j + 1)
  unfold byteAt2
  rw [UInt8.toNat_ofNat']
  omega
theorem getD_mid (a b : List UInt8) (v : UInt8) (k : Nat) (h : a.length = k) : (a ++ (v :: b)).getD k 0 = v := by
  subst h
  simp [List.getD]
theorem flatMap_eq {f g : Nat → List UInt8} : ∀ {l : List Nat}, (∀ a ∈ l, f a = g a) → l.flatMap f = l.flatMap g
  | [], _ => rfl
  | a :: l, h => by rw [List.flatMap_cons, List.flatMap_cons, h a (by simp), flatMap_eq (fun b hb => h b (by simp [hb]))]
theorem hp_two (l : List UInt8) : ∀ k, k ≤ 32 → hp l (2 * k) = (List.range k).map (byteAt2 l) ++ Sha.zeros (32 - k)
  | 0, _ => by simp [hp]
  | k + 1, h => by
    have ih := hp_two l k (by omega)
    have hz : Sha.zeros (32 - k) = 0 :: Sha.zeros (32 - (k + 1)) := by
      unfold Sha.zeros
      rw [show 32 - k = (32 - (k + 1)) + 1 from by omega, List.replicate_succ]
    have hlen : ((List.range k).map (byteAt2 l)).length = k := by simp
    have e1 : hp l (2 * k + 1) = (List.range k).map (byteAt2 l) ++ (UInt8.ofNat (dg2 l (2 * k)) :: Sha.zeros (32 - (k + 1))) := by
      rw [hp, ih, hz, show 2 * k / 2 = k from by omega]
      rw [List.set_append_right _ _ (by rw [hlen]; exact Nat.le_refl _), hlen, Nat.sub_self, List.set_cons_zero]
      congr 2
      rw [getD_mid _ _ _ _ hlen]
      simp [newb, dg2]
    rw [show 2 * (k + 1) = (2 * k + 1) + 1 from by omega, hp, e1, show (2 * k + 1) / 2 = k from by omega]
    rw [List.set_append_right _ _ (by rw [hlen]; exact Nat.le_refl _), hlen, Nat.sub_self, List.set_cons_zero, List.range_succ, List.map_append, List.append_assoc]
    congr 1
    simp only [List.map_cons, List.map_nil, List.cons_append, List.nil_append]
    congr 1
    rw [getD_mid _ _ _ _ hlen]
    have h1 := dg2_lt l (2 * k)
    simp only [newb, byteAt2]
    congr 1
    rw [UInt8.toNat_ofNat', show dig (l.getD (2 * k + 1) 0) = dig (l.getD (2 * k + 1) 0) from rfl]
    unfold dg2 at *
    omega
theorem hp_all (l : List UInt8) : hp l 64 = (List.range 32).map (byteAt2 l) := by
  have := hp_two l 32 (Nat.le_refl _)
  rw [show 2 * 32 = 64 from rfl] at this
  rw [this]
  simp [Sha.zeros]
theorem pairs_all : ∀ (n : Nat) (l : List UInt8), l.length = 2 * n → (List.range n).flatMap (fun j => [l.getD (2 * j) 0, l.getD (2 * j + 1) 0]) = l
  | 0, l, h => by rw [List.eq_nil_of_length_eq_zero (by omega : l.length = 0)]; rfl
  | n + 1, l, h => by
    have ih := pairs_all n (l.take (2 * n)) (by rw [List.length_take]; omega)
    rw [List.range_succ, List.flatMap_append]
    have e : (List.range n).flatMap (fun j => [l.getD (2 * j) 0, l.getD (2 * j + 1) 0]) = (List.range n).flatMap (fun j => [(l.take (2 * n)).getD (2 * j) 0, (l.take (2 * n)).getD (2 * j + 1) 0]) := by
      apply flatMap_eq
      intro j hj
      have hj' := List.mem_range.1 hj
      simp only [List.getD_eq_getElem?_getD]
      rw [List.getElem?_take_of_lt (by omega), List.getElem?_take_of_lt (by omega)]
    rw [e, ih]
    have h2 : l.drop (2 * n) = [l.getD (2 * n) 0, l.getD (2 * n + 1) 0] := by
      rw [List.drop_eq_getElem_cons (by omega), List.drop_eq_getElem_cons (by omega), List.drop_eq_nil_of_le (by omega)]
      simp [List.getD, h, show 2 * n < 2 * (n + 1) from by omega, show 2 * n + 1 < 2 * (n + 1) from by omega]
    simp only [List.flatMap_cons, List.flatMap_nil, List.append_nil]
    rw [← h2, List.take_append_drop]
/-- Text of what was parsed is the text. -/
theorem text_parse (l : List UInt8) (h : isHash l) : textOf (parseB l) = l := by
  rw [(parse_ok h).1, hp_all, textOf, List.flatMap_map]
  have e : ∀ j ∈ List.range 32, hex2 (byteAt2 l j) = [l.getD (2 * j) 0, l.getD (2 * j + 1) 0] := fun j hj => by
    have hj' := List.mem_range.1 hj
    have h1 := dg2_lt l (2 * j)
    have h2 := dg2_lt l (2 * j + 1)
    unfold hex2
    rw [byteAt2_nat, show (dg2 l (2 * j) * 16 + dg2 l (2 * j + 1)) / 16 = dg2 l (2 * j) from by omega, show (dg2 l (2 * j) * 16 + dg2 l (2 * j + 1)) % 16 = dg2 l (2 * j + 1) from by omega]
    unfold dg2
    rw [sign_dig _ (h.2 _ (by omega)), sign_dig _ (h.2 _ (by omega))]
  rw [flatMap_eq e]
  exact pairs_all 32 l h.1
theorem textOf_get (x : List UInt8) : ∀ j (h : j < x.length), (textOf x).getD (2 * j) 0 = signB (x[j].toNat / 16) ∧ (textOf x).getD (2 * j + 1) 0 = signB (x[j].toNat % 16) := by
  induction x with
  | nil => intro j h; simp at h
  | cons c x ih =>
    intro j h
    have e : textOf (c :: x) = signB (c.toNat / 16) :: signB (c.toNat % 16) :: textOf x := rfl
    rw [e]
    rcases j with _ | j
    · exact ⟨rfl, rfl⟩
    · have := ih j (by simpa using h)
      rw [show 2 * (j + 1) = 2 * j + 1 + 1 from by omega]
      simp only [List.getD_cons_succ, List.getElem_cons_succ]
      exact this
theorem text_digits (x : List UInt8) (hx : x.length = 32) : isHash (textOf x) := by
  refine ⟨by rw [textOf_len, hx], fun i hi => ?_⟩
  have hj : i / 2 < x.length := by omega
  obtain ⟨h1, h2⟩ := textOf_get x (i / 2) hj
  have hc := x[i / 2].toNat_lt
  rcases Nat.mod_two_eq_zero_or_one i with h | h
  · rw [show 2 * (i / 2) = i from by omega] at h1
    rw [h1, dig_sign _ (by omega)]
    omega
  · rw [show 2 * (i / 2) + 1 = i from by omega] at h2
    rw [h2, dig_sign _ (by omega)]
    omega
/-- What is parsed of a hash's text is the hash. -/
theorem parse_text (x : List UInt8) (hx : x.length = 32) : parseB (textOf x) = x ∧ parseE (textOf x) = 0 := by
  have h := text_digits x hx
  refine ⟨?_, (parse_ok h).2⟩
  rw [(parse_ok h).1, hp_all]
  apply List.ext_getElem (by simp [hx])
  intro j h1 h2
  obtain ⟨e1, e2⟩ := textOf_get x j h2
  have hc := x[j].toNat_lt
  simp only [List.getElem_map, List.getElem_range]
  apply UInt8.toNat_inj.1
  rw [byteAt2_nat]
  unfold dg2
  rw [e1, e2, dig_sign _ (by omega), dig_sign _ (by omega)]
  omega
theorem text_inj (x y : List UInt8) (hx : x.length = 32) (hy : y.length = 32) : (textOf x == textOf y) = (x == y) := by
  by_cases h : x = y
  · subst h; simp
  · have : textOf x ≠ textOf y := fun e => h (by rw [← (parse_text x hx).1, e, (parse_text y hy).1])
    rw [beq_eq_false_iff_ne.2 this, beq_eq_false_iff_ne.2 h]
theorem sign_lt (a b : Nat) (ha : a < 16) (hb : b < 16) : (signB a < signB b) = (a < b) ∧ (signB a = signB b ↔ a = b) := by
  have : ∀ a b : Fin 16, (decide (signB a.val < signB b.val) = decide (a.val < b.val)) ∧ (decide (signB a.val = signB b.val) = decide (a.val = b.val)) := by decide +kernel
  obtain ⟨h1, h2⟩ := this ⟨a, ha⟩ ⟨b, hb⟩
  exact ⟨propext (decide_eq_decide.1 h1), decide_eq_decide.1 h2⟩
theorem text_less : ∀ (x y : List UInt8), x.length = y.length → Op.bytesLess (textOf x) (textOf y) = Op.bytesLess x y
  | [], [], _ => rfl
  | [], _ :: _, h => by simp at h
  | _ :: _, [], h => by simp at h
  | c :: x, d :: y, h => by
    have ih := text_less x y (by simpa using h)
    have hc := c.toNat_lt
    have hd := d.toNat_lt
    have e1 : textOf (c :: x) = signB (c.toNat / 16) :: signB (c.toNat % 16) :: textOf x := rfl
    have e2 : textOf (d :: y) = signB (d.toNat / 16) :: signB (d.toNat % 16) :: textOf y := rfl
    obtain ⟨a1, a2⟩ := sign_lt (c.toNat / 16) (d.toNat / 16) (by omega) (by omega)
    obtain ⟨b1, b2⟩ := sign_lt (c.toNat % 16) (d.toNat % 16) (by omega) (by omega)
    rw [e1, e2]
    simp only [Op.bytesLess, ih]
    rw [Bool.eq_iff_iff]
    simp only [Bool.or_eq_true, Bool.and_eq_true, decide_eq_true_eq, beq_iff_eq, a1, b1, a2, b2, UInt8.lt_iff_toNat_lt, ← UInt8.toNat_inj]
    constructor
    · rintro (h | ⟨h1, h | ⟨h2, h3⟩⟩)
      · left; omega
      · left; omega
      · right; exact ⟨by omega, h3⟩
    · rintro (h | ⟨h1, h3⟩)
      · by_cases q : c.toNat / 16 < d.toNat / 16
        · exact .inl q
        · exact .inr ⟨by omega, .inl (by omega)⟩
      · exact .inr ⟨by omega, .inr ⟨by omega, h3⟩⟩
end Go.Proofs.Ytfconncnccgenaa
