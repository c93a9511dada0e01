/- money: two rows of numbers compared; the chapter's rows. -/
import Derived.Test.YtcfhhljjknmniaaDoorMm10
set_option linter.unusedVariables false
set_option linter.unusedSimpArgs false
namespace Go.Proofs.YtcfhhljjknmniaaDoor
open Go.RowKit
theorem idxZ {b o n c i : Nat} (h : i < n) (hn : n ≤ 9223372036854775807) (W : World) : (Instr.indexAt 22 (.slice (some ⟨b, o, none⟩) n c) (.int .i64 (i : Int))).run Tryd.prog W = .ok (.pointer (some ⟨b, o + i, none⟩)) W := by
  have hd : decide ((i : Int) < (n : Int)) = true := decide_eq_true (by omega)
  have hd' : decide (i < n) = true := decide_eq_true h
  go_simp
theorem neqI (t : TypeId) (k : IntKind) (i j : Int) (W : World) : (binOp .neq t (.int k i) (.int k j)).run Tryd.prog W = .ok (.bool (i != j)) W := by go_simp
theorem take_eq {xs ys : List Int} {k : Nat} (hx : k < xs.length) (hy : k < ys.length) (h : xs.take k = ys.take k) (e : xs[k] = ys[k]) : xs.take (k + 1) = ys.take (k + 1) := by
  rw [List.take_add_one, List.take_add_one, List.getElem?_eq_getElem hx, List.getElem?_eq_getElem hy, h, e]
set_option maxRecDepth 100000 in
theorem same_any (A B : Option Addr) (n m c d : Nat) (xs ys : List Int) (w : World) (hn : xs.length = n) (hm : ys.length = m) (hnb : n ≤ 9223372036854775807) (hmb : m ≤ 9223372036854775807) (hx : RdV w A (xs.map numV)) (hy : RdV w B (ys.map numV)) :
    Calls Tryd.prog 17 #[.slice A n c, .slice B m d] w fun e w' => e = .returned (.bool (decide (xs = ys))) ∧ Later w w' := by
  refine Calls.post fun Φ HΦ => ?_
  by_cases hnm : n = m
  case neg =>
    have hd : decide ((n : Int) = (m : Int)) = false := decide_eq_false (by omega)
    have hd1 : ((n : Int) != (m : Int)) = true := bne_iff_ne.2 (by omega)
    have hd2 : decide (n = m) = false := decide_eq_false hnm
    have hS : decide (xs = ys) = false := decide_eq_false (fun e => hnm (by rw [← hn, ← hm, e]))
    rw [hS] at HΦ
    clear hS hn hm
    go_enter Tryd.func17, Tryd.ntmps17
    go_wp2_with fail
    exact HΦ.out _ _ ⟨rfl, Later.refl _⟩
  subst hnm
  have HN := Lib.hid hn
  have HM := Lib.hid hm
  clear hn hm
  go_enter Tryd.func17, Tryd.ntmps17
  go_wp2_with fail
  go_loopw [5] (fun t wr => ∃ k : Nat, k ≤ n ∧ t = .int .i64 k ∧ Later w wr ∧ xs.take k = ys.take k) (fun t _ => n - (intOf t).toNat)
  case atStart => exact ⟨0, by omega, rfl, Later.refl _, rfl⟩
  case round =>
    obtain ⟨k, hk, rfl, hL, htk⟩ := hrel
    by_cases hlt : k < n
    · have hd : decide ((k : Int) < (n : Int)) = true := decide_eq_true (by omega)
      have hd' : decide (k < n) = true := decide_eq_true hlt
      have hkx : k < xs.length := by rw [HN.out]; exact hlt
      have hky : k < ys.length := by rw [HM.out]; exact hlt
      obtain ⟨b, o, rfl, hc⟩ := (hx.later hL).at_ (k := k) (by simpa using hkx)
      obtain ⟨b2, o2, rfl, hc2⟩ := (hy.later hL).at_ (k := k) (by simpa using hky)
      rw [List.getElem_map] at hc hc2
      obtain ⟨x, hxe⟩ : ∃ x, xs[k] = x := ⟨_, rfl⟩
      obtain ⟨y, hye⟩ : ∃ y, ys[k] = y := ⟨_, rfl⟩
      rw [hxe] at hc
      rw [hye] at hc2
      have HTK := Lib.hid htk
      have HX := Lib.hid hxe
      have HY := Lib.hid hye
      clear htk hxe hye
      go_upto_region 6 with fail
      refine wp_region_list [Pr.eq (.slice (some ⟨b, o, none⟩) n c), Pr.eq (.int .i64 (k : Int)), Pr.eq (.pointer (some ⟨b, o + k, none⟩)), Pr.eq (numV x), Pr.eq (.slice (some ⟨b2, o2, none⟩) n d), Pr.eq (.int .i64 (k : Int)), Pr.eq (.pointer (some ⟨b2, o2 + k, none⟩)), Pr.eq (numV y), Pr.eq (.bool (x != y))] (by kernel_rfl) (by kernel_rfl) (by kernel_rfl) (by kernel_rfl) ⟨?_, ?_, ?_, ?_, ?_, ?_, ?_, ?_, ?_, trivial⟩ ?_
      · exact fun ac W hL he => stepOk_want rfl (op_move rfl (he.keep (.tmp 0) (by kernel_rfl)))
      · exact fun ac W hL he => stepOk_want rfl (op_move rfl (he.keep (.tmp 5) (by kernel_rfl)))
      · exact fun ac W hL he => stepOk_want rfl (op_idx rfl (he.get 0 17 (by kernel_rfl) rfl) (he.get 1 18 (by kernel_rfl) rfl) (idxZ hlt hnb W) rfl)
      · exact fun ac W hL he => stepOk_want rfl (op_load rfl (he.get 2 19 (by kernel_rfl) rfl) (loadInt (cell_later hc hL)) rfl)
      · exact fun ac W hL he => stepOk_want rfl (op_move rfl (he.keep (.tmp 1) (by kernel_rfl)))
      · exact fun ac W hL he => stepOk_want rfl (op_move rfl (he.keep (.tmp 5) (by kernel_rfl)))
      · exact fun ac W hL he => stepOk_want rfl (op_idx rfl (he.get 4 21 (by kernel_rfl) rfl) (he.get 5 22 (by kernel_rfl) rfl) (idxZ hlt hnb W) rfl)
      · exact fun ac W hL he => stepOk_want rfl (op_load rfl (he.get 6 23 (by kernel_rfl) rfl) (loadInt (cell_later hc2 hL)) rfl)
      · exact fun ac W hL he => stepOk_want rfl (op_binOp rfl (he.get 3 20 (by kernel_rfl) rfl) (he.get 7 24 (by kernel_rfl) rfl) rfl (neqI _ _ _ _ W) rfl)
      intro xs' W hLW hxs
      have h25 : xs' 8 = .bool (x != y) := hxs 8 (by decide)
      clear hxs
      simp only [putL, Nat.reduceAdd, Act.put, List.setIfInBounds_toArray, List.set_cons_succ, List.set_cons_zero, h25]
      clear h25
      have hL' := hL.step hLW
      clear hc hc2 hL hLW
      by_cases he : x = y
      · have e1 : (x != y) = false := by simpa using he
        rw [e1]
        go_wp2_with fail
        go_roundw
        case rel => exact ⟨k + 1, by omega, by go_num, hL', take_eq hkx hky HTK.out (by rw [HX.out, HY.out, he])⟩
        case measure => simp [intOf]; omega
      · have e1 : (x != y) = true := bne_iff_ne.2 he
        rw [e1]
        have hS : decide (xs = ys) = false := decide_eq_false (fun e => he (by subst e; rw [← HX.out, ← HY.out]))
        rw [hS] at HΦ
        clear hS
        go_wp2_with fail
        exact HΦ.out _ _ ⟨rfl, hL'⟩
    · obtain rfl : k = n := by omega
      have hd : decide ((k : Int) < (k : Int)) = false := decide_eq_false (by omega)
      have hd' : decide (k < k) = false := decide_eq_false (by omega)
      rw [List.take_of_length_le (by rw [HN.out]; exact Nat.le_refl _), List.take_of_length_le (by rw [HM.out]; exact Nat.le_refl _)] at htk
      rw [decide_eq_true htk] at HΦ
      clear htk
      go_wp2_with fail
      exact HΦ.out _ _ ⟨rfl, hL⟩
end Go.Proofs.YtcfhhljjknmniaaDoor
