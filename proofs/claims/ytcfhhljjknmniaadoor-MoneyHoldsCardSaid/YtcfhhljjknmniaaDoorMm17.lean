/- money: an amount's text, as the document lays it. -/
import Derived.Test.YtcfhhljjknmniaaDoorMm16
import Derived.Deep.DeepCutAuto
set_option linter.unusedVariables false
set_option linter.unusedSimpArgs false
namespace Go.Proofs.YtcfhhljjknmniaaDoor
open Go.RowKit
theorem decDigits_zero : Lib.decDigits 0 = [48] := Lib.decDigits_one (by decide)
theorem pow10_digits : ∀ (k u : Nat), u < 10 ^ (k + 1) → Lib.decDigits (10 ^ (k + 1) + u) = 49 :: (List.replicate (k + 1 - (Lib.decDigits u).length) 48 ++ Lib.decDigits u)
  | 0, u, h => by
    have hu : u < 10 := by simpa using h
    rw [Lib.decDigits_one hu]
    rw [Lib.decDigits_two (by omega) (by omega)]
    have h1 : (10 ^ (0 + 1) + u) / 10 = 1 := by omega
    have h2 : (10 ^ (0 + 1) + u) % 10 = u := by omega
    rw [h1, h2]
    rfl
  | k + 1, u, h => by
    have e : (10 ^ (k + 1 + 1) + u) / 10 = 10 ^ (k + 1) + u / 10 := by rw [Nat.pow_succ]; omega
    have e2 : (10 ^ (k + 1 + 1) + u) % 10 = u % 10 := by rw [Nat.pow_succ]; omega
    have hbig : ¬ 10 ^ (k + 1 + 1) + u < 10 := by
      have := Nat.one_le_pow (k + 1) 10 (by decide)
      rw [Nat.pow_succ]
      omega
    have hlt : u / 10 < 10 ^ (k + 1) := by rw [Nat.pow_succ] at h; omega
    rw [Lib.decDigits, dif_neg hbig, e, e2, pow10_digits k (u / 10) hlt, List.cons_append]
    congr 1
    rw [List.append_assoc]
    by_cases hu : u < 10
    · rw [show u / 10 = 0 by omega, decDigits_zero, Lib.decDigits_one hu, Nat.mod_eq_of_lt hu]
      simp only [List.length_singleton]
      rw [← List.append_assoc]
      congr 1
      rw [show k + 1 + 1 - 1 = k + 1 - 1 + 1 by omega, List.replicate_succ']
    · conv => rhs; rw [Lib.decDigits, dif_neg hu]
      rw [List.length_append, List.length_singleton]
      rw [show k + 1 + 1 - ((Lib.decDigits (u / 10)).length + 1) = k + 1 - (Lib.decDigits (u / 10)).length by omega]
theorem big_digits {u : Nat} (h : u < 100000000) : Lib.decDigits (100000000 + u) = 49 :: pad8 u := by
  have := pow10_digits 7 u h
  unfold pad8
  rw [repeatL_replicate]
  exact this
theorem trim_at (m : List UInt8) (x : UInt8) (k : Nat) (hx : x ≠ 48) : Lib.trimRightB ((m ++ [x]) ++ List.replicate k 48) 48 = m ++ [x] := by
  unfold Lib.trimRightB
  rw [List.reverse_append, List.reverse_replicate, List.reverse_append, List.reverse_singleton]
  have : ∀ k, (List.replicate k (48 : UInt8) ++ ([x] ++ m.reverse)).dropWhile (· == 48) = [x] ++ m.reverse := by
    intro k
    induction k with
    | zero =>
      rw [List.replicate_zero, List.nil_append, List.singleton_append, List.dropWhile_cons_of_neg (by simpa using hx)]
    | succ k ih => rw [List.replicate_succ, List.cons_append, List.dropWhile_cons_of_pos (by rfl)]; exact ih
  rw [this]
  simp
theorem units_zero : unitsT 0 = [] := by
  unfold unitsT
  rw [decDigits_zero]
  kernel_rfl
theorem pad_some {u : Nat} (hu : u ≠ 0) {l : List UInt8} {k : Nat} (h : pad8 u = l ++ List.replicate k 48) : ∃ m x, l = m ++ [x] := by
  rcases List.eq_nil_or_concat l with rfl | ⟨m, x, e⟩
  · exfalso
    apply hu
    rw [← (pad8_dig u).2, h, List.nil_append]
    have := valD_zeros k []
    rw [List.append_nil] at this
    rw [this]
    rfl
  · exact ⟨m, x, by rw [e, List.concat_eq_append]⟩
theorem units_some {u : Nat} (hu : u ≠ 0) : unitsT u ≠ [] := by
  obtain ⟨k, hk⟩ := trim_back (pad8 u)
  intro e
  rw [unitsT_eq] at e
  rw [e] at hk
  obtain ⟨m, x, h⟩ := pad_some hu hk
  cases m <;> cases h
theorem ba_last (m : List UInt8) (x : UInt8) (h : m.length < (⟨(m ++ [x]).toArray⟩ : ByteArray).size) : (⟨(m ++ [x]).toArray⟩ : ByteArray)[m.length]'h = x := by
  show ((m ++ [x]).toArray)[m.length]'_ = x
  simp
theorem toNat_ne {x y : UInt8} (h : x ≠ y) : x.toNat ≠ y.toNat := fun e => h (UInt8.toNat_inj.1 e)
def lenOf (v : Value) : Nat := match v with | .string s => s.size | _ => 0
set_option maxRecDepth 100000 in
theorem refText_any (a : Int) (w : World) (hT : Tabs w) :
    Calls Tryd.prog 21 #[.int .i64 a] w fun e w' => e = .returned (.tuple #[.string ⟨(textS a).1.toArray⟩, .int .i64 (textS a).2]) ∧ Later w w' := by
  refine Calls.post fun Φ HΦ => ?_
  have h1 := fun W => right5_any a W
  simp only [← amts_one] at h1
  cases ha : amts [a] with
  | false =>
    rw [ha] at h1
    have hS : textS a = ([], 2) := by unfold textS; rw [ha]; rfl
    rw [hS] at HΦ
    go_enter Tryd.func21, Tryd.ntmps21
    go_wp2_with (first
      | (go_at_call 14; refine (h1 _).mono ?_; clear h1; rintro e w1 ⟨rfl, rfl⟩)
      | fail)
    exact HΦ.out _ _ ⟨rfl, Later.refl _⟩
  | true =>
    rw [ha] at h1
    have hS : textS a = (coinT a.toNat, 0) := by unfold textS; rw [ha]; rfl
    rw [hS] at HΦ
    have hb := okAmt_iff ha
    obtain ⟨n, rfl⟩ := Int.eq_ofNat_of_zero_le hb.1
    rw [show ((n : Int)).toNat = n from rfl] at HΦ
    obtain ⟨c, hc⟩ : ∃ c, n / 100000000 = c := ⟨_, rfl⟩
    obtain ⟨u, hu⟩ : ∃ u, n % 100000000 = u := ⟨_, rfl⟩
    have d1 : (n : Int) / 100000000 = (c : Int) := by omega
    have d2 : (n : Int) % 100000000 = (u : Int) := by omega
    have d0 : (0 : Int) ≤ (n : Int) := by omega
    have hcb : c < 9223372036854775807 := by omega
    have hub : u < 100000000 := by omega
    have hf1 := fun W (hL : Later w W) => Tryd.strconv_FormatInt_10 (c : Int) (by omega) (by omega) W (hT.later hL).pow
    simp only [Lib.itoa_nonneg] at hf1
    have hC : coinT n = if unitsT u = [] then Lib.decDigits c else Lib.decDigits c ++ 46 :: unitsT u := by unfold coinT; rw [hc, hu]
    rw [hC] at HΦ
    have hDb : (Lib.decDigits c).length ≤ 20 := by rw [Lib.decDigits_length]; exact Lib.nDigits_le20 c (by omega)
    generalize Lib.decDigits c = D at *
    clear hS hC ha hb hc hu
    by_cases h0 : u = 0
    · subst h0
      rw [if_pos units_zero] at HΦ
      go_enter Tryd.func21, Tryd.ntmps21
      go_wp2_with (first
        | (go_at_call 14; refine (h1 _).mono ?_; clear h1; rintro e w1 ⟨rfl, rfl⟩)
        | (go_at_call 35; refine (hf1 _ (Later.refl _)).mono ?_; clear hf1; rintro e w2 ⟨rfl, k2, os2, hw2⟩; have hLb : Later _ w2 := hw2 ▸ later_grow _ k2 os2; clear hw2)
        | fail)
      exact HΦ.out _ _ ⟨rfl, hLb⟩
    · rw [if_neg (units_some h0)] at HΦ
      have e0 : decide ((u : Int) = 0) = false := decide_eq_false (by omega)
      have e1 : ((u : Int) == 0) = false := beq_eq_false_iff_ne.2 (by omega)
      have hf2 := fun W (hL : Later w W) => Tryd.strconv_FormatInt_10 (100000000 + (u : Int)) (by omega) (by omega) W (hT.later hL).pow
      have hbd : Lib.itoa (100000000 + (u : Int)) = 49 :: pad8 u := by
        rw [← big_digits hub, ← Lib.itoa_nonneg]
        congr 1
      rw [hbd] at hf2
      have hpl := pad8_len hub
      have H0 := Lib.hid h0
      have HT := Lib.hid hT
      clear hbd hT h0
      go_enter Tryd.func21, Tryd.ntmps21
      go_wp2_with (first
        | (go_at_call 14; refine (h1 _).mono ?_; clear h1; rintro e w1 ⟨rfl, rfl⟩)
        | (go_at_call 35; refine (hf1 _ (Later.refl _)).mono ?_; clear hf1; rintro e w2 ⟨rfl, k2, os2, hw2⟩; have hLb : Later _ w2 := hw2 ▸ later_grow _ k2 os2; clear hw2)
        | (go_at_call 35; refine (hf2 _ hLb).mono ?_; clear hf2; rintro e w3 ⟨rfl, k3, os3, hw3⟩; have hLc := hLb.step (hw3 ▸ later_grow w2 k3 os3); clear hLb hw3)
        | fail)
      have hx0 : (⟨(49 :: pad8 u).toArray⟩ : ByteArray).extract 1 9 = ⟨(pad8 u).toArray⟩ := by
        rw [ba_extract, List.take_of_length_le (by rw [List.length_cons, hpl]; omega)]
        rfl
      rw [hx0]
      clear hx0 hpl
      go_loopw [6] (fun t wr => ∃ (l : List UInt8) (k : Nat), t = .string ⟨l.toArray⟩ ∧ l.length ≤ 8 ∧ pad8 u = l ++ List.replicate k 48 ∧ w3 = wr) (fun t _ => lenOf t)
      case atStart => exact ⟨pad8 u, 0, rfl, by rw [pad8_len hub]; exact Nat.le_refl _, by simp, rfl⟩
      case round =>
        obtain ⟨l, k, rfl, hlb, hpad, rfl⟩ := hrel
        obtain ⟨m, x, rfl⟩ := pad_some H0.out hpad
        have HP := Lib.hid hpad
        clear hpad
        have hmb : m.length ≤ 7 := by simp at hlb; omega
        clear hlb
        have hl : ∀ h, (⟨(m ++ [x]).toArray⟩ : ByteArray)[m.length]'h = x := fun h => ba_last m x h
        by_cases hx : x = 48
        · have e2 : (((x.toNat : Nat) : Int) == 48) = true := by rw [hx]; rfl
          have HX := Lib.hid hx
          clear hx
          go_wp2_with fail
          go_roundw
          case rel => exact ⟨m, k + 1, by rw [ba_extract]; simp, by omega, by rw [HP.out, HX.out, List.append_assoc, List.replicate_succ]; rfl, (by first | rfl | trivial)⟩
          case measure =>
            rw [ba_extract]
            show (((m ++ [x]).take m.length).drop 0).toArray.size < (m ++ [x]).toArray.size
            simp
        · have e2 : (((x.toNat : Nat) : Int) == 48) = false := beq_eq_false_iff_ne.2 (fun e => toNat_ne hx (by simpa using Int.ofNat.inj e))
          have hun : unitsT u = m ++ [x] := by rw [unitsT_eq, HP.out]; exact trim_at m x k hx
          rw [hun] at HΦ
          clear hun hx
          go_wp2_with fail
          refine HΦ.out _ _ ⟨?_, hLc⟩
          show Ending.returned (.tuple #[.string (⟨D.toArray⟩ ++ ⟨#[46]⟩ ++ ⟨(m ++ [x]).toArray⟩), .int .i64 0]) = _
          rw [show (⟨#[46]⟩ : ByteArray) = ⟨[46].toArray⟩ from rfl, ba_append, ba_append, List.append_assoc]
          rfl
end Go.Proofs.YtcfhhljjknmniaaDoor
