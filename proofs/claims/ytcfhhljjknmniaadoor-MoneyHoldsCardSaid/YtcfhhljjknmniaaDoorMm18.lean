/- money: the amount of a text, as the document counts it; Texts: the statement's walk. -/
import Derived.Test.YtcfhhljjknmniaaDoorMm17
set_option linter.unusedVariables false
set_option linter.unusedSimpArgs false
namespace Go.Proofs.YtcfhhljjknmniaaDoor
open Go.RowKit
def scanR : List UInt8 → Nat → Nat → Int → Option (Nat × Int)
  | [], _, n, p => some (n, p)
  | c :: r, i, n, p =>
    if c = 46 ∧ p < 0 then scanR r (i + 1) n i
    else if (c.toNat < 48 ∨ 57 < c.toNat) ∨ 1125899906842624 < n then none
    else scanR r (i + 1) (10 * n + (c.toNat - 48)) p
def padR : Nat → Nat → Option Nat
  | 0, n => some n
  | k + 1, n => if 1125899906842624 < n then none else padR k (10 * n)
def moreR (len : Nat) (p : Int) : Int := if 0 ≤ p then 8 - ((len : Int) - p - 1) else 8
def endR (s : List UInt8) : Option Nat → Int × Int
  | none => (0, 152)
  | some n => if amts [(n : Int)] && decide (coinT n = s) then ((n : Int), 0) else (0, 152)
def afterR (s : List UInt8) : Option (Nat × Int) → Int × Int
  | none => (0, 152)
  | some (n, p) => endR s (padR (moreR s.length p).toNat n)
def refParseS (s : List UInt8) : Int × Int := if s.length ≤ 30 then afterR s (scanR s 0 0 (-1)) else (0, 152)
theorem scanR_point {c : UInt8} {r : List UInt8} {i n : Nat} {p : Int} (h : c = 46) (hp : p < 0) : scanR (c :: r) i n p = scanR r (i + 1) n i := by rw [scanR, if_pos ⟨h, hp⟩]
theorem scanR_none {c : UInt8} {r : List UInt8} {i n : Nat} {p : Int} (h : ¬(c = 46 ∧ p < 0)) (hb : (c.toNat < 48 ∨ 57 < c.toNat) ∨ 1125899906842624 < n) : scanR (c :: r) i n p = none := by rw [scanR, if_neg h, if_pos hb]
theorem scanR_dig {c : UInt8} {r : List UInt8} {i n : Nat} {p : Int} (h : c ≠ 46) (h1 : 48 ≤ c.toNat) (h2 : c.toNat ≤ 57) (h3 : n ≤ 1125899906842624) : scanR (c :: r) i n p = scanR r (i + 1) (10 * n + (c.toNat - 48)) p := by
  rw [scanR, if_neg (fun e => h e.1), if_neg (by omega)]
theorem ba_at (s : List UInt8) (i : Nat) (hi : i < s.length) (h : i < (⟨s.toArray⟩ : ByteArray).size) : (⟨s.toArray⟩ : ByteArray)[i]'h = s[i] := by
  show (s.toArray)[i]'_ = s[i]
  simp
theorem endR_or (s : List UInt8) (o : Option Nat) : endR s o = (0, 152) ∨ ∃ n : Nat, n ≤ 1125899906842624 ∧ s = coinT n ∧ endR s o = ((n : Int), 0) := by
  cases o with
  | none => exact .inl rfl
  | some n =>
    have he : endR s (some n) = if amts [(n : Int)] && decide (coinT n = s) then ((n : Int), 0) else (0, 152) := rfl
    cases hc : amts [(n : Int)] && decide (coinT n = s) with
    | false => rw [he, hc]; exact .inl rfl
    | true =>
      have h := hc
      rw [Bool.and_eq_true, decide_eq_true_eq] at h
      have := okAmt_iff h.1
      exact .inr ⟨n, by omega, h.2.symm, by rw [he, hc]; rfl⟩
theorem refParse_or (s : List UInt8) : refParseS s = (0, 152) ∨ ∃ n : Nat, n ≤ 1125899906842624 ∧ s = coinT n ∧ refParseS s = ((n : Int), 0) := by
  unfold refParseS
  split
  · unfold afterR
    split
    · exact .inl rfl
    · exact endR_or _ _
  · exact .inl rfl
theorem dig_ne {c : UInt8} (h : isDig c) : c ≠ 46 := fun e => by subst e; exact absurd h (by unfold isDig; decide)
theorem scan_digits (l r : List UInt8) (hd : ∀ c ∈ l, isDig c) : ∀ (i a : Nat) (p : Int), valD a l ≤ 1125899906842624 → scanR (l ++ r) i a p = scanR r (i + l.length) (valD a l) p := by
  induction l with
  | nil => intro i a p _; rfl
  | cons c l ih =>
    intro i a p hv
    have hc := hd c (by simp)
    have h1 := valD_le l (a * 10 + (c.toNat - 48))
    rw [valD_cons] at hv ⊢
    unfold isDig at hc
    rw [List.cons_append, scanR_dig (dig_ne (hd c (by simp))) hc.1 hc.2 (by omega), List.length_cons]
    rw [show 10 * a + (c.toNat - 48) = a * 10 + (c.toNat - 48) by omega, ih (fun x hx => hd x (by simp [hx])) _ _ _ hv]
    rw [show i + 1 + l.length = i + (l.length + 1) by omega]
theorem pad_zeros (k : Nat) : ∀ m : Nat, valD m (List.replicate k 48) ≤ 1125899906842624 → padR k m = some (valD m (List.replicate k 48)) := by
  induction k with
  | zero => intro m _; rfl
  | succ k ih =>
    intro m h
    rw [List.replicate_succ, valD_cons] at h ⊢
    have h1 := valD_le (List.replicate k 48) (m * 10 + ((48 : UInt8).toNat - 48))
    have e : m * 10 + ((48 : UInt8).toNat - 48) = 10 * m := by
      rw [show (48 : UInt8).toNat = 48 from rfl]
      omega
    rw [e] at h h1 ⊢
    rw [padR, if_neg (by omega)]
    exact ih _ h
theorem valD_split (l : List UInt8) : ∀ a : Nat, valD a l = a * 10 ^ l.length + valD 0 l := by
  induction l with
  | nil => intro a; simp [valD]
  | cons c l ih =>
    intro a
    rw [valD_cons, valD_cons, Nat.zero_mul, Nat.zero_add, ih, ih (c.toNat - 48), List.length_cons, Nat.pow_succ, Nat.add_mul]
    rw [Nat.mul_assoc a 10, Nat.mul_comm 10 (10 ^ l.length)]
    omega
theorem refParse_coin {n : Nat} (h : n ≤ 1125899906842624) : refParseS (coinT n) = ((n : Int), 0) := by
  have hu : n % 100000000 < 100000000 := Nat.mod_lt _ (by decide)
  obtain ⟨d1, d2, d3⟩ := decDigits_all (n / 100000000)
  obtain ⟨p1, p2⟩ := pad8_dig (n % 100000000)
  have b3 : amts [(n : Int)] = true := by simp [amts, bad, maxAmt]; omega
  have hend : endR (coinT n) (some n) = ((n : Int), 0) := by
    show (if _ then _ else _) = _
    rw [b3, decide_eq_true rfl]
    rfl
  have hlen := coin_len h
  have hval : valD (n / 100000000) (pad8 (n % 100000000)) = n := by
    rw [valD_split, p2, pad8_len hu]
    omega
  unfold refParseS
  rw [if_pos hlen]
  by_cases hU : unitsT (n % 100000000) = []
  · have hc : coinT n = Lib.decDigits (n / 100000000) := by unfold coinT; rw [if_pos hU]
    have hs := scan_digits (Lib.decDigits (n / 100000000)) [] d1 0 0 (-1) (by rw [d2]; omega)
    rw [List.append_nil, d2] at hs
    rw [← hc] at hs
    rw [hs]
    show endR _ (padR (moreR _ (-1)).toNat (n / 100000000)) = _
    rw [show (moreR (coinT n).length (-1)).toNat = 8 from rfl]
    have hz : pad8 (n % 100000000) = List.replicate 8 48 := by
      obtain ⟨k, hk⟩ := trim_back (pad8 (n % 100000000))
      rw [← unitsT_eq, hU, List.nil_append] at hk
      have := congrArg List.length hk
      rw [pad8_len hu, List.length_replicate] at this
      rw [hk, ← this]
    rw [hz] at hval
    rw [pad_zeros 8 _ (by rw [hval]; exact h), hval]
    exact hend
  · have hc : coinT n = Lib.decDigits (n / 100000000) ++ 46 :: unitsT (n % 100000000) := by unfold coinT; rw [if_neg hU]
    obtain ⟨k, hk⟩ := trim_back (pad8 (n % 100000000))
    rw [← unitsT_eq] at hk
    have hl := congrArg List.length hk
    rw [pad8_len hu, List.length_append, List.length_replicate] at hl
    have hv2 : valD (valD (n / 100000000) (unitsT (n % 100000000))) (List.replicate k 48) = n := by
      rw [← valD_append, ← hk, hval]
    have hv1 := valD_le (List.replicate k 48) (valD (n / 100000000) (unitsT (n % 100000000)))
    rw [hv2] at hv1
    have hs := scan_digits (Lib.decDigits (n / 100000000)) (46 :: unitsT (n % 100000000)) d1 0 0 (-1) (by rw [d2]; omega)
    rw [d2, scanR_point rfl (by decide), ← hc] at hs
    have hs2 := scan_digits (unitsT (n % 100000000)) [] (units_dig _) (0 + (Lib.decDigits (n / 100000000)).length + 1) (n / 100000000) (((0 + (Lib.decDigits (n / 100000000)).length : Nat) : Int)) (by omega)
    rw [List.append_nil] at hs2
    rw [hs, hs2]
    show endR _ (padR (moreR _ _).toNat _) = _
    have hm : (moreR (coinT n).length ((0 + (Lib.decDigits (n / 100000000)).length : Nat) : Int)).toNat = k := by
      unfold moreR
      rw [if_pos (by omega), hc, List.length_append, List.length_cons]
      omega
    rw [hm, pad_zeros k _ (by rw [hv2]; exact h), hv2]
    exact hend
/-- Both tell the same of every text. -/
theorem parse_same (s : List UInt8) : parseS s = refParseS s := by
  rcases parse_or s with h1 | ⟨n, hn, rfl, h1⟩
  · rcases refParse_or s with h2 | ⟨n, hn, rfl, h2⟩
    · rw [h1, h2]
    · rw [parse_coin hn, h2]
  · rw [h1, refParse_coin hn]
end Go.Proofs.YtcfhhljjknmniaaDoor
