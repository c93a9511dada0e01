/- money: the document's row of parts. -/
import Derived.Test.YtcfhhljjknmniaaDoorMp2
set_option linter.unusedVariables false
set_option linter.unusedSimpArgs false
namespace Go.Proofs.YtcfhhljjknmniaaDoor
open Go.RowKit
def partsL (a m : Int) : List Int := (List.range (cntP a m)).map fun i => ((partAt a.toNat m.toNat i : Nat) : Int)
theorem partsL_len (a m : Int) : (partsL a m).length = cntP a m := by simp [partsL]
theorem partsL_none {a m : Int} (h : okP a m = false) : partsL a m = [] := by unfold partsL cntP; rw [h]; rfl
theorem partsL_take {a m k : Nat} (hk : k < m) (h : okP a m = true) : ((List.range (k + 1)).map fun i => ((partAt a m i : Nat) : Int)) = ((List.range k).map fun i => ((partAt a m i : Nat) : Int)) ++ [((partAt a m k : Nat) : Int)] := by
  rw [List.range_succ, List.map_append]
  rfl
set_option maxRecDepth 100000 in
theorem refParts_any (a m : Int) (w : World) :
    Calls Tryd.prog 26 #[.int .i64 a, .int .i64 m] w fun e w' => (∃ B c', e = .returned (.slice B (cntP a m) c') ∧ RdV w' B ((partsL a m).map numV)) ∧ Later w w' := by
  refine Calls.post fun Φ HΦ => ?_
  have h1 := fun W => right5_any a W
  simp only [← amts_one] at h1
  cases hok : okP a m with
  | false =>
    rw [partsL_none hok, show cntP a m = 0 by unfold cntP; rw [hok]; rfl] at HΦ
    cases ha : amts [a] with
    | false =>
      rw [ha] at h1
      go_enter Tryd.func26, Tryd.ntmps26
      go_wp2_with (first
        | (go_at_call 14; refine (h1 _).mono ?_; clear h1; rintro e w1 ⟨rfl, rfl⟩)
        | fail)
      exact HΦ.out _ _ ⟨⟨none, 0, rfl, RdV.nil _ _⟩, Later.refl _⟩
    | true =>
      rw [ha] at h1
      unfold okP at hok
      rw [ha, Bool.true_and] at hok
      by_cases hm1 : 1 ≤ m
      · have d1 : decide (m < 1) = false := decide_eq_false (by omega)
        have d2 : decide (1000 < m) = true := by
          rw [decide_eq_true hm1, Bool.true_and] at hok
          exact decide_eq_true (by simpa using hok)
        go_enter Tryd.func26, Tryd.ntmps26
        go_wp2_with (first
          | (go_at_call 14; refine (h1 _).mono ?_; clear h1; rintro e w1 ⟨rfl, rfl⟩)
          | fail)
        exact HΦ.out _ _ ⟨⟨none, 0, rfl, RdV.nil _ _⟩, Later.refl _⟩
      · have d1 : decide (m < 1) = true := decide_eq_true (by omega)
        go_enter Tryd.func26, Tryd.ntmps26
        go_wp2_with (first
          | (go_at_call 14; refine (h1 _).mono ?_; clear h1; rintro e w1 ⟨rfl, rfl⟩)
          | fail)
        exact HΦ.out _ _ ⟨⟨none, 0, rfl, RdV.nil _ _⟩, Later.refl _⟩
  | true =>
    have hc : cntP a m = m.toNat := by unfold cntP; rw [hok]; rfl
    have hok' := hok
    unfold okP at hok
    rw [Bool.and_eq_true, Bool.and_eq_true, decide_eq_true_eq, decide_eq_true_eq] at hok
    have hb := okAmt_iff hok.1
    rw [hok.1] at h1
    obtain ⟨x, rfl⟩ := Int.eq_ofNat_of_zero_le hb.1
    obtain ⟨y, rfl⟩ := Int.eq_ofNat_of_zero_le (show 0 ≤ m by omega)
    have hcy : cntP x y = y := hc
    have hx : x ≤ 1125899906842624 := by omega
    have hy1 : 1 ≤ y := by omega
    have hy2 : y ≤ 1000 := by omega
    have hpl : partsL x y = (List.range y).map fun i => ((partAt x y i : Nat) : Int) := by unfold partsL; rw [hcy]; rfl
    rw [hcy, hpl] at HΦ
    have d1 : decide ((y : Int) < 1) = false := decide_eq_false (by omega)
    have d2 : decide (1000 < (y : Int)) = false := decide_eq_false (by omega)
    have HOK := Lib.hid hok'
    clear hc hok hok' hb hpl hcy
    obtain ⟨qu, hqu⟩ : ∃ u, x / y = u := ⟨_, rfl⟩
    obtain ⟨re, hre⟩ : ∃ u, x % y = u := ⟨_, rfl⟩
    have hqb : qu ≤ 1125899906842624 := by rw [← hqu]; exact Nat.le_trans (Nat.div_le_self _ _) hx
    have e1 : (x : Int) / (y : Int) = (qu : Int) := by rw [← hqu]; exact (Int.natCast_ediv x y).symm
    have e2 : (x : Int) % (y : Int) = (re : Int) := by rw [← hre]; exact (Int.natCast_emod x y).symm
    have e0 : (0 : Int) ≤ (x : Int) := by omega
    have em : (0 : Int) < (y : Int) := by omega
    have em0 : ((y : Int) = 0) = False := eq_false (by omega)
    have HQU := Lib.hid hqu
    have HRE := Lib.hid hre
    clear hqu hre
    go_enter Tryd.func26, Tryd.ntmps26
    go_wp2_with (first
      | (go_at_call 14; refine (h1 _).mono ?_; clear h1; rintro e w1 ⟨rfl, rfl⟩)
      | fail)
    clear d1 d2
    go_loopw [5, 6] (fun t u wr => ∃ k : Nat, k ≤ y ∧ u = .int .i64 (k : Int) ∧ Later w wr ∧ OwnZ wr w.heap.size t ((List.range k).map fun i => ((partAt x y i : Nat) : Int))) (fun _ u _ => y - (intOf u).toNat)
    case atStart => exact ⟨0, by omega, rfl, Later.refl _, OwnZ.nil _ _⟩
    case round =>
      obtain ⟨k, hk, rfl, hL, hown⟩ := hrel
      by_cases hlt : k < y
      · have hd : decide ((k : Int) < (y : Int)) = true := decide_eq_true (by omega)
        have hd' : decide (k < y) = true := decide_eq_true hlt
        have hs := hL.size
        obtain ⟨A1, c1, hv1, _, _, _⟩ := hown.slice
        rw [show ((List.range k).map fun i => ((partAt x y i : Nat) : Int)).length = k by simp] at hv1
        subst hv1
        have hll : ((List.range k).map fun i => ((partAt x y i : Nat) : Int)).length + 1 ≤ 10000000000 := by simp; omega
        by_cases hkr : k < re
        · have hdr : decide ((k : Int) < (re : Int)) = true := decide_eq_true (by omega)
          have hdr' : decide (k < re) = true := decide_eq_true hkr
          have hp : ((partAt x y k : Nat) : Int) = (qu : Int) + 1 := by unfold partAt; rw [HQU.out, HRE.out, if_pos hkr]; rfl
          have hown1 := hown.later ((Later.refl wr).alloc (.cells #[.int .i64 ((qu : Int) + 1)] 2))
          have hL1 := hL.alloc (.cells #[.int .i64 ((qu : Int) + 1)] 2)
          have hs1 := hL1.size
          have HP := Lib.hid hp
          clear hp hown hkr
          go_wp2_with (first
            | (refine wpList_buildSl rfl 22 1 _ rfl #[(0, .int .i64 _)] rfl (build1Z _ _) ?_)
            | (refine wpList_append_ints rfl (.tmp 34) (.tmp 36) rfl w.heap.size _ _ rfl hown1 (some ⟨wr.heap.size, 0, none⟩) 1 1 [((qu : Int) + 1)] rfl rfl (rd1Z _ wr) hll hs1 fun v' w' ho' hg' hb' => ?_)
            | fail)
          go_roundw
          case rel => exact ⟨k + 1, by omega, by go_num, hL1.grown hg' hs1 (fun j e => (hown1.at_ j e).1), by rw [partsL_take hlt HOK.out, HP.out]; exact ho'⟩
          case measure => simp [intOf]; omega
        · have hdr : decide ((k : Int) < (re : Int)) = false := decide_eq_false (by omega)
          have hdr' : decide (k < re) = false := decide_eq_false hkr
          have hp : ((partAt x y k : Nat) : Int) = (qu : Int) := by unfold partAt; rw [HQU.out, HRE.out, if_neg hkr]; rfl
          have hown1 := hown.later ((Later.refl wr).alloc (.cells #[.int .i64 (qu : Int)] 2))
          have hL1 := hL.alloc (.cells #[.int .i64 (qu : Int)] 2)
          have hs1 := hL1.size
          have HP := Lib.hid hp
          clear hp hown hkr
          go_wp2_with (first
            | (refine wpList_buildSl rfl 22 1 _ rfl #[(0, .int .i64 _)] rfl (build1Z _ _) ?_)
            | (refine wpList_append_ints rfl (.tmp 34) (.tmp 36) rfl w.heap.size _ _ rfl hown1 (some ⟨wr.heap.size, 0, none⟩) 1 1 [(qu : Int)] rfl rfl (rd1Z _ wr) hll hs1 fun v' w' ho' hg' hb' => ?_)
            | fail)
          go_roundw
          case rel => exact ⟨k + 1, by omega, by go_num, hL1.grown hg' hs1 (fun j e => (hown1.at_ j e).1), by rw [partsL_take hlt HOK.out, HP.out]; exact ho'⟩
          case measure => simp [intOf]; omega
      · obtain rfl : k = y := by omega
        have hd : decide ((k : Int) < (k : Int)) = false := decide_eq_false (by omega)
        have hd' : decide (k < k) = false := decide_eq_false (by omega)
        obtain ⟨A1, c1, hv1, _, _, hrd⟩ := hown.slice
        rw [show ((List.range k).map fun i => ((partAt x k i : Nat) : Int)).length = k by simp] at hv1
        subst hv1
        go_wp2_with fail
        exact HΦ.out _ _ ⟨⟨A1, c1, rfl, hrd⟩, hL⟩
end Go.Proofs.YtcfhhljjknmniaaDoor
