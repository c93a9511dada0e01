/- money: plain laws of digits; the amount of an amount's text. -/
import Derived.Test.YtcfhhljjknmniaaDoorMm13
import Derived.Lib.ParseIntBCases
set_option linter.unusedVariables false
set_option linter.unusedSimpArgs false
namespace Go.Proofs.YtcfhhljjknmniaaDoor
open Go.RowKit
def isDig (c : UInt8) : Prop := 48 ≤ c.toNat ∧ c.toNat ≤ 57
def valD (a : Nat) (l : List UInt8) : Nat := l.foldl (fun x c => x * 10 + (c.toNat - 48)) a
theorem valD_cons (a : Nat) (c : UInt8) (r : List UInt8) : valD a (c :: r) = valD (a * 10 + (c.toNat - 48)) r := by
  unfold valD
  rw [List.foldl_cons]
theorem valD_append (l m : List UInt8) : ∀ a : Nat, valD a (l ++ m) = valD (valD a l) m := by
  induction l with
  | nil => intro a; rfl
  | cons c l ih => intro a; rw [List.cons_append, valD_cons, valD_cons, ih]
theorem valD_le (l : List UInt8) : ∀ a : Nat, a ≤ valD a l := by
  induction l with
  | nil => intro a; exact Nat.le_refl _
  | cons c l ih =>
    intro a
    have := ih (a * 10 + (c.toNat - 48))
    rw [valD_cons]
    omega
theorem dig_of (k : Nat) (h : k < 10) : isDig (UInt8.ofNat (48 + k)) ∧ (UInt8.ofNat (48 + k)).toNat - 48 = k := by
  have : (UInt8.ofNat (48 + k)).toNat = 48 + k := by
    rw [UInt8.toNat_ofNat']
    omega
  unfold isDig
  rw [this]
  omega
theorem decDigits_all (u : Nat) : (∀ c ∈ Lib.decDigits u, isDig c) ∧ valD 0 (Lib.decDigits u) = u ∧ Lib.decDigits u ≠ [] := by
  induction u using Nat.strongRecOn with
  | _ u ih =>
    by_cases h : u < 10
    · rw [Lib.decDigits, dif_pos h]
      obtain ⟨h1, h2⟩ := dig_of u h
      refine ⟨fun c hc => by rw [List.mem_singleton.1 hc]; exact h1, ?_, by simp⟩
      show 0 * 10 + _ = u
      omega
    · rw [Lib.decDigits, dif_neg h]
      obtain ⟨h1, h2⟩ := dig_of (u % 10) (Nat.mod_lt _ (by decide))
      obtain ⟨i1, i2, i3⟩ := ih (u / 10) (by omega)
      refine ⟨fun c hc => ?_, ?_, by simp⟩
      · rcases List.mem_append.1 hc with hc | hc
        · exact i1 c hc
        · rw [List.mem_singleton.1 hc]; exact h1
      · rw [valD_append, i2]
        show u / 10 * 10 + _ = u
        rw [h2]
        omega
theorem parseUintM_ok : ∀ (l : List UInt8) (a : Nat), (∀ c ∈ l, isDig c) → valD a l ≤ 1000000000000000 → Lib.parseUintM 18446744073709551615 a l = .ok (valD a l)
  | [], _, _, _ => rfl
  | c :: l, a, hd, hv => by
    have hc := hd c (by simp)
    have h1 := valD_le l (a * 10 + (c.toNat - 48))
    rw [valD_cons] at hv
    rw [Lib.parseUintM, if_pos (show 48 ≤ c.toNat ∧ c.toNat ≤ 57 from hc), if_neg (by omega), if_neg (by omega), valD_cons]
    exact parseUintM_ok l _ (fun x hx => hd x (by simp [hx])) hv
theorem parseIntB_ok (l : List UInt8) (hne : l ≠ []) (hd : ∀ c ∈ l, isDig c) (hv : valD 0 l ≤ 1000000000000000) : Lib.parseIntB 64 l = .ok ((valD 0 l : Nat) : Int) := by
  cases l with
  | nil => exact absurd rfl hne
  | cons c r =>
    have hc := hd c (by simp)
    unfold isDig at hc
    rw [Lib.parseIntB_plain 64 c r (by omega) (by omega)]
    unfold Lib.parseUintB
    rw [if_neg hne, show 2 ^ 64 - 1 = 18446744073709551615 from rfl, parseUintM_ok _ 0 hd hv]
    show (if 2 ^ (64 - 1) ≤ valD 0 (c :: r) then _ else _) = _
    rw [if_neg (by rw [show (2 : Nat) ^ (64 - 1) = 9223372036854775808 from rfl]; omega)]
theorem repeatL_replicate (k : Nat) : Lib.repeatL [48] k = List.replicate k 48 := by
  induction k with
  | zero => rfl
  | succ k ih => rw [Lib.repeatL, ih]; rfl
theorem valD_zeros (k : Nat) (l : List UInt8) : valD 0 (List.replicate k 48 ++ l) = valD 0 l := by
  induction k with
  | zero => rfl
  | succ k ih =>
    rw [List.replicate_succ, List.cons_append, valD_cons]
    exact ih
theorem trim_back (l : List UInt8) : ∃ k, l = Lib.trimRightB l 48 ++ List.replicate k 48 := by
  refine ⟨(l.reverse.takeWhile (· == 48)).length, ?_⟩
  have h := List.takeWhile_append_dropWhile (p := fun x : UInt8 => x == 48) (l := l.reverse)
  have h2 : l.reverse.takeWhile (fun x => x == 48) = List.replicate (l.reverse.takeWhile (fun x => x == 48)).length 48 := by
    rw [List.eq_replicate_iff]
    exact ⟨rfl, fun b hb => by have := List.all_eq_true.1 (List.all_takeWhile (p := fun x : UInt8 => x == 48) (l := l.reverse)) b hb; simpa using this⟩
  have h3 := congrArg List.reverse h
  rw [List.reverse_reverse, List.reverse_append, h2, List.reverse_replicate] at h3
  exact h3.symm
/-- Eight digits. -/
def pad8 (u : Nat) : List UInt8 := Lib.repeatL [48] (8 - (Lib.decDigits u).length) ++ Lib.decDigits u
theorem pad8_len {u : Nat} (h : u < 100000000) : (pad8 u).length = 8 := by
  have := nDigits_le8 u h
  rw [← Lib.decDigits_length] at this
  unfold pad8
  rw [List.length_append, repeatL_one]
  omega
theorem pad8_dig (u : Nat) : (∀ c ∈ pad8 u, isDig c) ∧ valD 0 (pad8 u) = u := by
  obtain ⟨h1, h2, _⟩ := decDigits_all u
  unfold pad8
  rw [repeatL_replicate]
  refine ⟨fun c hc => ?_, by rw [valD_zeros, h2]⟩
  rcases List.mem_append.1 hc with hc | hc
  · rw [(List.mem_replicate.1 hc).2]
    unfold isDig
    decide
  · exact h1 c hc
theorem unitsT_eq (u : Nat) : unitsT u = Lib.trimRightB (pad8 u) 48 := rfl
theorem full_units {u : Nat} (h : u < 100000000) : fullU (unitsT u) = pad8 u := by
  unfold fullU
  rw [unitsT_eq, repeatL_replicate]
  obtain ⟨k, hk⟩ := trim_back (pad8 u)
  have hl := pad8_len h
  have h2 := congrArg List.length hk
  rw [List.length_append, List.length_replicate, hl] at h2
  rw [show 8 - (Lib.trimRightB (pad8 u) 48).length = k by omega]
  exact hk.symm
theorem units_dig (u : Nat) : ∀ c ∈ unitsT u, isDig c := fun c hc => by
  obtain ⟨k, hk⟩ := trim_back (pad8 u)
  refine (pad8_dig u).1 c ?_
  rw [hk]
  exact List.mem_append_left _ hc
theorem dig_no_point {l : List UInt8} (h : ∀ c ∈ l, isDig c) : pointAt l = -1 := by
  induction l with
  | nil => rfl
  | cons c l ih =>
    have hc := h c (by simp)
    have ih := ih (fun x hx => h x (by simp [hx]))
    unfold pointAt at *
    have hne : (c == 46) = false := by
      rw [beq_eq_false_iff_ne]
      intro e
      subst e
      unfold isDig at hc
      exact absurd hc (by decide)
    rw [Lib.indexByte, hne, ih]
    rfl
theorem dig_point {l m : List UInt8} (h : ∀ c ∈ l, isDig c) : pointAt (l ++ 46 :: m) = l.length := by
  induction l with
  | nil => rfl
  | cons c l ih =>
    have hc := h c (by simp)
    have ih := ih (fun x hx => h x (by simp [hx]))
    unfold pointAt at *
    have hne : (c == 46) = false := by
      rw [beq_eq_false_iff_ne]
      intro e
      subst e
      unfold isDig at hc
      exact absurd hc (by decide)
    rw [List.cons_append, Lib.indexByte, hne, ih]
    have : ((l.length : Int) == -1) = false := by rw [beq_eq_false_iff_ne]; omega
    rw [this]
    simp
theorem cut_coin (n : Nat) : (cutP (coinT n)).1 = Lib.decDigits (n / 100000000) ∧ (cutP (coinT n)).2.1 = unitsT (n % 100000000) := by
  have hd := (decDigits_all (n / 100000000)).1
  unfold coinT
  split
  · rename_i h
    unfold cutP
    rw [dig_no_point hd, if_neg (by decide), h]
    exact ⟨rfl, rfl⟩
  · unfold cutP
    rw [dig_point hd, if_pos (by omega)]
    simp
theorem decDigits_len {u : Nat} (h : u < 100000000) : (Lib.decDigits u).length ≤ 8 := by
  rw [Lib.decDigits_length]
  exact nDigits_le8 u h
theorem units_len {u : Nat} (h : u < 100000000) : (unitsT u).length ≤ 8 := by
  have := trimRightB_len (pad8 u) 48
  rw [pad8_len h] at this
  exact this
theorem coin_len {n : Nat} (h : n ≤ 1125899906842624) : (coinT n).length ≤ 30 := by
  have h1 := decDigits_len (u := n / 100000000) (by omega)
  have h2 := units_len (u := n % 100000000) (by omega)
  unfold coinT
  split
  · omega
  · rw [List.length_append, List.length_cons]
    omega
/-- The amount of an amount's text is that amount. -/
theorem parse_coin {n : Nat} (h : n ≤ 1125899906842624) : parseS (coinT n) = ((n : Int), 0) := by
  have hu : n % 100000000 < 100000000 := Nat.mod_lt _ (by decide)
  obtain ⟨hc1, hc2⟩ := cut_coin n
  obtain ⟨d1, d2, d3⟩ := decDigits_all (n / 100000000)
  obtain ⟨p1, p2⟩ := pad8_dig (n % 100000000)
  have p3 : pad8 (n % 100000000) ≠ [] := by intro e; have := pad8_len hu; rw [e] at this; cases this
  have e1 := parseIntB_ok _ d3 d1 (by rw [d2]; omega)
  have e2 := parseIntB_ok _ p3 p1 (by rw [p2]; omega)
  rw [d2] at e1
  rw [p2] at e2
  unfold parseS
  rw [if_pos ⟨coin_len h, by rw [hc2]; exact units_len hu⟩, hc1, hc2, parseC_ok e1 (by rw [full_units hu]; exact e2)]
  have hv : ((n / 100000000 : Nat) : Int) * 100000000 + ((n % 100000000 : Nat) : Int) = (n : Int) := by omega
  rw [hv, show ((n : Int)).toNat = n from rfl]
  have b1 : bad 11258999 ((n / 100000000 : Nat) : Int) = false := by simp [bad]; omega
  have b2 : bad 99999999 ((n % 100000000 : Nat) : Int) = false := by simp [bad]; omega
  have b3 : amts [(n : Int)] = true := by simp [amts, bad, maxAmt]; omega
  rw [b1, b2, b3, decide_eq_true rfl]
  rfl
/-- What Parse tells is 152, or the amount whose text it is. -/
theorem parse_or (s : List UInt8) : parseS s = (0, 152) ∨ ∃ n : Nat, n ≤ 1125899906842624 ∧ s = coinT n ∧ parseS s = ((n : Int), 0) := by
  unfold parseS
  split
  · unfold parseC
    split
    · rename_i n m _ _
      split
      · rename_i h
        simp only [Bool.and_eq_true, decide_eq_true_eq] at h
        obtain ⟨⟨⟨_, _⟩, ha⟩, hs⟩ := h
        have := okAmt_iff ha
        refine .inr ⟨(n * 100000000 + m).toNat, by omega, hs.symm, ?_⟩
        rw [Int.toNat_of_nonneg this.1]
      · exact .inl rfl
    · exact .inl rfl
  · exact .inl rfl
end Go.Proofs.YtcfhhljjknmniaaDoor
