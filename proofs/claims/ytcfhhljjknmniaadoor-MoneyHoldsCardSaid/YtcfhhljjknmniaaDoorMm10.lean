/- money: the amount of a text. -/
import Derived.Test.YtcfhhljjknmniaaDoorMm9
set_option linter.unusedVariables false
set_option linter.unusedSimpArgs false
namespace Go.Proofs.YtcfhhljjknmniaaDoor
open Go.RowKit
/-- Where the point stands, or -1. -/
def pointAt (l : List UInt8) : Int := Lib.indexByte l 46
def cutP (l : List UInt8) : List UInt8 × List UInt8 × Bool := if 0 ≤ pointAt l then (l.take (pointAt l).toNat, l.drop ((pointAt l).toNat + 1), true) else (l, [], false)
theorem pointAt_lt : ∀ (l : List UInt8), pointAt l < l.length ∧ -1 ≤ pointAt l
  | [] => by simp [pointAt, Lib.indexByte]
  | b :: l => by
    obtain ⟨h1, h2⟩ := pointAt_lt l
    unfold pointAt at *
    rw [Lib.indexByte, List.length_cons]
    split
    · omega
    · split
      · omega
      · omega
theorem results_tmp3 {P : Program} {fn : Func} {p q r : Tmp} (h : fn.results = #[.tmp p, .tmp q, .tmp r]) (tmps : Array Value) (w : World) (x y z : Value) (hx : tmps.getD p undef = x) (hy : tmps.getD q undef = y) (hz : tmps.getD r undef = z) :
    (results fn tmps).run P w = .ok (.tuple #[x, y, z]) w := by
  have hp' : tmps[p]?.getD undef = x := by simpa using hx
  have hq' : tmps[q]?.getD undef = y := by simpa using hy
  have hr' : tmps[r]?.getD undef = z := by simpa using hz
  simp [results, h, hp', hq', hr']
theorem ba_extract (l : List UInt8) (i j : Nat) : (⟨l.toArray⟩ : ByteArray).extract i j = ⟨((l.take j).drop i).toArray⟩ := by
  apply ByteArray.ext
  rw [ByteArray.data_extract]
  apply Array.toList_inj.1
  rw [Array.toList_extract]
  rw [List.extract_eq_take_drop]
  exact List.drop_take.symm
set_option maxRecDepth 100000 in
theorem cutLite_any (l : List UInt8) (w : World) (hl : l.length ≤ 1000) :
    Calls Tryd.prog 62 #[.string ⟨l.toArray⟩, .string ⟨#[46]⟩] w fun e w' => e = .returned (.tuple #[.string ⟨(cutP l).1.toArray⟩, .string ⟨(cutP l).2.1.toArray⟩, .bool (cutP l).2.2]) ∧ Later w w' := by
  refine Calls.post fun Φ HΦ => ?_
  have hix := fun W => Tryd.stringslite_Index_one ⟨l.toArray⟩ 46 W
  rw [show (⟨l.toArray⟩ : ByteArray).data.toList = l from rfl] at hix
  rw [show Lib.indexByte l 46 = pointAt l from rfl] at hix
  obtain ⟨hp1, hp2⟩ := pointAt_lt l
  by_cases hp : 0 ≤ pointAt l
  · obtain ⟨k, hk⟩ : ∃ k : Nat, pointAt l = k := ⟨(pointAt l).toNat, by omega⟩
    have hS : cutP l = (l.take k, l.drop (k + 1), true) := by unfold cutP; rw [if_pos hp, hk]; rfl
    rw [hS] at HΦ
    simp only [hk] at hix
    have hkl : k < l.length := by omega
    have hd : decide (0 ≤ (k : Int)) = true := decide_eq_true (by omega)
    clear hp1 hp2 hp hk hS
    go_enter Tryd.func62, Tryd.ntmps62
    go_wp2_with (first
      | (go_at_call 80; refine (hix _).mono ?_; rintro e w1 ⟨rfl, hw1⟩; subst hw1)
      | fail)
    go_region
    go_wp2
    refine bodyPost_ret (results_tmp3 rfl _ _ _ _ _ rfl rfl rfl) rfl (HΦ.out _ _ ⟨?_, (Later.refl _).drew⟩)
    show Ending.returned (.tuple #[.string ((⟨l.toArray⟩ : ByteArray).extract 0 k), .string ((⟨l.toArray⟩ : ByteArray).extract (k + 1) l.length), .bool true]) = _
    rw [ba_extract, ba_extract, List.drop_zero, List.take_of_length_le (Nat.le_refl _)]
  · have hk : pointAt l = -1 := by omega
    have hS : cutP l = (l, [], false) := by unfold cutP; rw [if_neg hp]
    rw [hS] at HΦ
    simp only [hk] at hix
    clear hp1 hp2 hp hk hS
    go_enter Tryd.func62, Tryd.ntmps62
    go_wp2_with (first
      | (go_at_call 80; refine (hix _).mono ?_; rintro e w1 ⟨rfl, hw1⟩; subst hw1)
      | fail)
    exact bodyPost_ret (results_tmp3 rfl _ _ _ _ _ rfl rfl rfl) rfl (HΦ.out _ _ ⟨rfl, Later.refl _⟩)
theorem cut_any (l : List UInt8) (w : World) (hl : l.length ≤ 1000) :
    Calls Tryd.prog 38 #[.string ⟨l.toArray⟩, .string ⟨#[46]⟩] w fun e w' => e = .returned (.tuple #[.string ⟨(cutP l).1.toArray⟩, .string ⟨(cutP l).2.1.toArray⟩, .bool (cutP l).2.2]) ∧ Later w w' := by
  refine Calls.post fun Φ HΦ => ?_
  have hc := cutLite_any l w hl
  generalize cutP l = C at *
  go_enter Tryd.func38, Tryd.ntmps38
  go_wp2_with (first
    | (go_at_call 62; refine hc.mono ?_; rintro e w1 ⟨rfl, hL1⟩)
    | fail)
  exact bodyPost_ret (results_tmp3 rfl _ _ _ _ _ rfl rfl rfl) rfl (HΦ.out _ _ ⟨rfl, hL1⟩)
theorem cutP_len (l : List UInt8) : (cutP l).1.length ≤ l.length ∧ (cutP l).2.1.length ≤ l.length := by
  unfold cutP
  split <;> simp [List.length_take] <;> omega
end Go.Proofs.YtcfhhljjknmniaaDoor
