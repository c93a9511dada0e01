/- money: an amount's text. -/
import Derived.Test.YtcfhhljjknmniaaDoorMm8
import Derived.Lib.ItoaLen
import Derived.Lib.AppendIntMem
set_option linter.unusedVariables false
set_option linter.unusedSimpArgs false
namespace Go.Proofs.YtcfhhljjknmniaaDoor
open Go.RowKit
/-- The digits behind the point, without noughts at the end. -/
def unitsT (u : Nat) : List UInt8 := Lib.trimRightB (Lib.repeatL [48] (8 - (Lib.decDigits u).length) ++ Lib.decDigits u) 48
def coinT (a : Nat) : List UInt8 := if unitsT (a % 100000000) = [] then Lib.decDigits (a / 100000000) else Lib.decDigits (a / 100000000) ++ 46 :: unitsT (a % 100000000)
def textS (a : Int) : List UInt8 × Int := if amts [a] then (coinT a.toNat, 0) else ([], 2)
theorem nDigits_le8 (u : Nat) (h : u < 100000000) : Lib.nDigits u ≤ 8 := by
  rcases Nat.lt_or_ge u 10 with h0 | h0
  · rw [Lib.nDigits_small h0]; omega
  · have h1 := Lib.lt_pow_nDigits u
    rcases Nat.lt_or_ge 8 (Lib.nDigits u) with h2 | h2
    · exfalso
      have key : ∀ k u : Nat, u < 10 ^ k → 1 ≤ k → Lib.nDigits u ≤ k := by
        intro k
        induction k with
        | zero => intro u _ h; omega
        | succ k ih =>
          intro u hu _
          by_cases hs : u < 10
          · rw [Lib.nDigits_small hs]; omega
          · rw [Lib.nDigits_big hs]
            rcases Nat.eq_zero_or_pos k with rfl | hk
            · simp at hu; omega
            · have := ih (u / 10) (by rw [Nat.pow_succ] at hu; omega) hk
              omega
      have := key 8 u (by omega) (by omega)
      omega
    · exact h2
theorem trimRightB_len (l : List UInt8) (c : UInt8) : (Lib.trimRightB l c).length ≤ l.length := by
  unfold Lib.trimRightB
  rw [List.length_reverse]
  exact Nat.le_trans (List.dropWhile_sublist _).length_le (by simp)
theorem repeatL_one (p : Nat) : (Lib.repeatL [48] p).length = p := by rw [Lib.repeatL_length]; simp
theorem ba_append (a b : List UInt8) : (⟨a.toArray⟩ : ByteArray) ++ ⟨b.toArray⟩ = ⟨(a ++ b).toArray⟩ := by
  apply ByteArray.ext
  simp [ByteArray.data_append]
theorem later_grow (w : World) (k : Nat) (os : Array Obj) : Later w (Sort.grow (w.drewN k) os) := Lib.below_grow _ w (Nat.le_refl _) k os
set_option maxRecDepth 100000 in
theorem text_any (a : Int) (w : World) (hT : Tabs w) :
    Calls Tryd.prog 20 #[.int .i64 a] w fun e w' => e = .returned (.tuple #[.string ⟨(textS a).1.toArray⟩, .int .i64 (textS a).2]) ∧ Below w.heap.size w w' := by
  refine Calls.post fun Φ HΦ => ?_
  have hL0 := (Later.refl w).alloc (.cells #[.int .i64 a] 2)
  have hck := check_any (some ⟨w.heap.size, 0, none⟩) 1 1 [a] _ rfl (by omega) (rd1Z a w)
  cases ha : amts [a] with
  | false =>
    rw [ha] at hck
    have hS : textS a = ([], 2) := by unfold textS; rw [ha]; rfl
    rw [hS] at HΦ
    go_enter Tryd.func20, Tryd.ntmps20
    go_wp2_with (first
      | (refine wpList_buildSl rfl 22 1 _ rfl #[(0, .int .i64 _)] rfl (build1Z _ _) ?_)
      | (go_at_call 16; refine hck.mono ?_; clear hck; rintro e w1 ⟨rfl, hL1⟩)
      | fail)
    exact HΦ.out _ _ ⟨rfl, hL0.step hL1⟩
  | true =>
    rw [ha] at hck
    have hS : textS a = (coinT a.toNat, 0) := by unfold textS; rw [ha]; rfl
    rw [hS] at HΦ
    have h1 := okAmt_iff ha
    obtain ⟨n, rfl⟩ := Int.eq_ofNat_of_zero_le h1.1
    rw [show ((n : Int)).toNat = n from rfl] at HΦ
    obtain ⟨c, hc⟩ : ∃ c, n / 100000000 = c := ⟨_, rfl⟩
    obtain ⟨u, hu⟩ : ∃ u, n % 100000000 = u := ⟨_, rfl⟩
    have d1 : (n : Int) / 100000000 = (c : Int) := by omega
    have d2 : (n : Int) % 100000000 = (u : Int) := by omega
    have d0 : (0 : Int) ≤ (n : Int) := by omega
    have hcb : c < 9223372036854775807 := by omega
    have hub : u < 100000000 := by omega
    have hf1 := fun W (hL : Later w W) => Tryd.strconv_FormatInt_10 (c : Int) (by omega) (by omega) W (hT.later hL).pow
    have hf2 := fun W (hL : Later w W) => Tryd.strconv_FormatInt_10 (u : Int) (by omega) (by omega) W (hT.later hL).pow
    simp only [Lib.itoa_nonneg] at hf1 hf2
    have hm8 := nDigits_le8 u hub
    rw [← Lib.decDigits_length] at hm8
    have hC : coinT n = if unitsT u = [] then Lib.decDigits c else Lib.decDigits c ++ 46 :: unitsT u := by unfold coinT; rw [hc, hu]
    rw [hC] at HΦ
    unfold unitsT at HΦ
    clear hS hC ha h1 hc hu hT
    have hDb : (Lib.decDigits c).length ≤ 20 := by rw [Lib.decDigits_length]; exact Lib.nDigits_le20 c (by omega)
    generalize Lib.decDigits c = D at *
    generalize Lib.decDigits u = U at *
    obtain ⟨p, hp⟩ : ∃ p, 8 - U.length = p := ⟨_, rfl⟩
    rw [hp] at HΦ
    have d3 : (8 : Int) - (U.length : Int) = (p : Int) := by omega
    have hpb : p ≤ 8 := by omega
    have hrep := fun W => Tryd.strings_Repeat ⟨#[48]⟩ p W (by omega) (by show 1 * p ≤ _; omega)
    rw [show (⟨#[48]⟩ : ByteArray).data.toList = [48] from rfl] at hrep
    have hrl := repeatL_one p
    generalize Lib.repeatL [48] p = R at *
    clear hp
    have htr := fun W => Tryd.strings_TrimRight_one (⟨R.toArray⟩ ++ ⟨U.toArray⟩) 48 (by decide) W (by rw [ba_append]; show (R ++ U).toArray.size ≤ _; rw [List.size_toArray, List.length_append]; omega)
    rw [show ((⟨R.toArray⟩ : ByteArray) ++ ⟨U.toArray⟩).data.toList = R ++ U by rw [ba_append]] at htr
    have htl := trimRightB_len (R ++ U) 48
    rw [List.length_append] at htl
    generalize Lib.trimRightB (R ++ U) 48 = T at *
    have hTb : T.length ≤ 16 := by omega
    clear htl
    cases hE : T.isEmpty with
    | true =>
      rw [if_pos (List.isEmpty_iff.1 hE)] at HΦ
      go_enter Tryd.func20, Tryd.ntmps20
      go_wp2_with (first
        | (refine wpList_buildSl rfl 22 1 _ rfl #[(0, .int .i64 _)] rfl (build1Z _ _) ?_)
        | (go_at_call 16; refine hck.mono ?_; clear hck; rintro e w1 ⟨rfl, hL1⟩; have hLa := hL0.step hL1; clear hL0 hL1)
        | (go_at_call 35; refine (hf1 _ hLa).mono ?_; clear hf1; rintro e w2 ⟨rfl, k2, os2, hw2⟩; have hLb := hLa.step (hw2 ▸ later_grow w1 k2 os2); clear hLa hw2)
        | (go_at_call 35; refine (hf2 _ hLb).mono ?_; clear hf2; rintro e w3 ⟨rfl, k3, os3, hw3⟩; have hLc := hLb.step (hw3 ▸ later_grow w2 k3 os3); clear hLb hw3)
        | (go_at_call 37; refine (hrep _).mono ?_; clear hrep; rintro e w4 ⟨rfl, hL4⟩; have hLd := hLc.step hL4; clear hLc hL4)
        | (go_at_call 36; refine (htr _).mono ?_; clear htr; rintro e w5 ⟨rfl, hw5⟩; subst hw5)
        | fail)
      exact HΦ.out _ _ ⟨rfl, hLd⟩
    | false =>
      rw [if_neg (fun h => by rw [List.isEmpty_iff.2 h] at hE; cases hE)] at HΦ
      have hcat : (⟨D.toArray⟩ : ByteArray) ++ ⟨#[46]⟩ ++ ⟨T.toArray⟩ = ⟨(D ++ 46 :: T).toArray⟩ := by
        rw [show (⟨#[46]⟩ : ByteArray) = ⟨[46].toArray⟩ from rfl, ba_append, ba_append, List.append_assoc]
        rfl
      have HCAT := Lib.hid hcat
      clear hcat
      go_enter Tryd.func20, Tryd.ntmps20
      go_wp2_with (first
        | (refine wpList_buildSl rfl 22 1 _ rfl #[(0, .int .i64 _)] rfl (build1Z _ _) ?_)
        | (go_at_call 16; refine hck.mono ?_; clear hck; rintro e w1 ⟨rfl, hL1⟩; have hLa := hL0.step hL1; clear hL0 hL1)
        | (go_at_call 35; refine (hf1 _ hLa).mono ?_; clear hf1; rintro e w2 ⟨rfl, k2, os2, hw2⟩; have hLb := hLa.step (hw2 ▸ later_grow w1 k2 os2); clear hLa hw2)
        | (go_at_call 35; refine (hf2 _ hLb).mono ?_; clear hf2; rintro e w3 ⟨rfl, k3, os3, hw3⟩; have hLc := hLb.step (hw3 ▸ later_grow w2 k3 os3); clear hLb hw3)
        | (go_at_call 37; refine (hrep _).mono ?_; clear hrep; rintro e w4 ⟨rfl, hL4⟩; have hLd := hLc.step hL4; clear hLc hL4)
        | (go_at_call 36; refine (htr _).mono ?_; clear htr; rintro e w5 ⟨rfl, hw5⟩; subst hw5)
        | fail)
      refine HΦ.out _ _ ⟨?_, hLd⟩
      show Ending.returned (.tuple #[.string (⟨D.toArray⟩ ++ ⟨#[46]⟩ ++ ⟨T.toArray⟩), .int .i64 0]) = _
      rw [HCAT.out]
end Go.Proofs.YtcfhhljjknmniaaDoor
