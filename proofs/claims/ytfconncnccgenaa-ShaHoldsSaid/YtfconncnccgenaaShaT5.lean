/- Walks: the document's Text. -/
import Derived.Test.YtfconncnccgenaaShaT4
import Derived.Test.YtfconncnccgenaaOrder3
set_option linter.unusedVariables false
set_option linter.unusedSimpArgs false
namespace Go.Proofs.Ytfconncnccgenaa
open Go.RowKit
theorem sign_any (n : Nat) (w : World) (h : n < 16) : Calls Try.prog 34 #[.int .u8 (n : Int)] w fun e w' => e = .returned (.int .u8 ((signB n).toNat : Int)) ∧ w = w' := by
  have hv : ((signB n).toNat : Int) = if n < 10 then 48 + (n : Int) else 97 + (n : Int) - 10 := by
    have h16 : n = 0 ∨ n = 1 ∨ n = 2 ∨ n = 3 ∨ n = 4 ∨ n = 5 ∨ n = 6 ∨ n = 7 ∨ n = 8 ∨ n = 9 ∨ n = 10 ∨ n = 11 ∨ n = 12 ∨ n = 13 ∨ n = 14 ∨ n = 15 := by omega
    rcases h16 with rfl | rfl | rfl | rfl | rfl | rfl | rfl | rfl | rfl | rfl | rfl | rfl | rfl | rfl | rfl | rfl <;> rfl
  by_cases h10 : n < 10
  · rw [if_pos h10] at hv
    have hd : decide ((n : Int) < 10) = true := by simp; omega
    have HV := Lib.hid hv
    clear hv
    go_enter Try.func34, Try.ntmps34
    go_wp2
    go_ret
    exact ⟨by rw [HV.out]; rfl, rfl⟩
  · rw [if_neg h10] at hv
    have hd : decide ((n : Int) < 10) = false := by simp; omega
    have HV := Lib.hid hv
    clear hv
    go_enter Try.func34, Try.ntmps34
    go_wp2
    go_ret
    exact ⟨by rw [HV.out]; rfl, rfl⟩
theorem eqg_quo {T : TypeId} {x y : Operand} {vx vy : Value} {P : Program} {W : World} : (eqGuard .quo T x y vx vy).run P W = .ok () W := rfl
theorem quo16 {x : Nat} {W : World} (hx : x < 256) : (binOp .quo 5 (.int .u8 (x : Int)) (.int .u8 16)).run Try.prog W = .ok (.int .u8 ((x / 16 : Nat) : Int)) W := by
  have e : ((x : Int).tdiv 16) = ((x / 16 : Nat) : Int) := by rw [Int.tdiv_eq_ediv_of_nonneg (by omega)]; rfl
  go_simp
  simp [IntKind.wrap, IntKind.bits, IntKind.signed]
  omega
theorem rem16 {x : Nat} {W : World} : (binOp .rem 5 (.int .u8 (x : Int)) (.int .u8 16)).run Try.prog W = .ok (.int .u8 ((x % 16 : Nat) : Int)) W := by
  have e : ((x : Int).tmod 16) = ((x % 16 : Nat) : Int) := by rw [Int.tmod_eq_emod_of_nonneg (by omega)]; rfl
  go_simp
theorem load8 {b o : Nat} {x : Int} {W : World} (hc : W.cell? ⟨b, o, none⟩ = some (.int .u8 x)) : (Instr.loadAt 5 (.pointer (some ⟨b, o, none⟩))).run Try.prog W = .ok (.int .u8 x) W := by
  go_simp
theorem idxHp {b j : Nat} {W : World} (h : j < 32) : (Instr.indexAt 26 (.pointer (some ⟨b, 0, none⟩)) (.int .i64 (j : Int))).run Try.prog W = .ok (.pointer (some ⟨b, j, none⟩)) W := by
  have h1 : (j : Int) < 32 := by omega
  have h2 : (0 : Int) ≤ (j : Int) := by omega
  go_simp
theorem run_bytes2 (x y : Int) (W : World) : (Instr.buildSlice 23 2 #[(0, .int .u8 x), (1, .int .u8 y)]).run Try.prog W = .ok (.slice (some ⟨W.heap.size, 0, none⟩) 2 2) (W.alloc (.cells #[.int .u8 x, .int .u8 y] 5)) := by kernel_rfl
set_option maxHeartbeats 2000000 in
set_option maxRecDepth 100000 in
theorem refText_any (h : List UInt8) (hl : h.length = 32) (w : World) :
    Calls Try.prog 14 #[.agg (hC h)] w fun e w' => e = .returned (.string ⟨(textOf h).toArray⟩) ∧ Below w.heap.size w w' := by
  have HL := Lib.hid hl
  have hrow0 : Row (w.alloc (.cells (hC h) 26)) w.heap.size 26 (hC h) := Row.new w _ _
  obtain ⟨bh, hbh⟩ : ∃ y, w.heap.size = y := ⟨_, rfl⟩
  have HBH := Lib.hid hbh
  rw [hbh] at hrow0
  have hb0 := below_new w (.cells (hC h) 26)
  go_enter Try.func14, Try.ntmps14
  go_wp2_with (first
    | (refine wpList_box rfl 26 (.tmp 0) rfl (.agg (hC h)) rfl (boxH h hl _) ?_))
  clear hbh hl
  go_loopw [3, 4] (fun v t wr => ∃ k : Nat, k ≤ 32 ∧ t = .int .i64 k ∧ Own 5 wr (bh + 1) v (textOf (h.take k)) ∧ Row wr bh 26 (hC h) ∧ Below bh w wr) (fun _ t _ => 32 - (intOf t).toNat)
  case atStart => exact ⟨0, by omega, rfl, Own.nil _ _ _, hrow0, by rw [← HBH.out]; exact hb0⟩
  case round =>
    obtain ⟨k, hk, rfl, hown, hr, hb⟩ := hrel
    clear hrow0 hb0
    by_cases hlt : k < 32
    · have hkl : k < h.length := by rw [HL.out]; exact hlt
      have hcx := (hr.cell k).trans (hC_get h k hkl (by rw [HL.out]; omega))
      have hnx : textOf (h.take (k + 1)) = textOf (h.take k) ++ [signB (h[k].toNat / 16), signB (h[k].toNat % 16)] := by rw [List.take_succ_eq_append_getElem hkl, textOf_snoc]; rfl
      have hln : (textOf (h.take k)).length ≤ 64 := by rw [textOf_len, List.length_take]; omega
      have HNX := Lib.hid hnx
      generalize h[k] = c at *
      have hcl := c.toNat_lt
      clear hnx
      generalize textOf (h.take k) = acc at *
      have hrl := hr.lt
      go_upto_region 5 with fail
      refine (wpIn_wide (n := 0)).1 ?_
      refine wpIn_region_last2 wide_wide [Pr.eq u3, Pr.eq (.int .i64 (k : Int)), Pr.eq (.pointer (some ⟨bh, k, none⟩)), Pr.eq (.int .u8 (c.toNat : Int)), Pr.eq (.int .u8 ((c.toNat / 16 : Nat) : Int)), Pr.eq (.int .u8 ((signB (c.toNat / 16)).toNat : Int)), Pr.eq (.int .i64 (k : Int)), Pr.eq (.pointer (some ⟨bh, k, none⟩)), Pr.eq (.int .u8 (c.toNat : Int)), Pr.eq (.int .u8 ((c.toNat % 16 : Nat) : Int)), Pr.eq (.int .u8 ((signB (c.toNat % 16)).toNat : Int)), Pr.rd 2 [signB (c.toNat / 16), signB (c.toNat % 16)]] (by kernel_rfl) (by kernel_rfl) (by kernel_rfl) (by kernel_rfl) (by kernel_rfl) (by kernel_rfl) rfl rfl (by kernel_rfl) ⟨?_, ?_, ?_, ?_, ?_, ?_, ?_, ?_, ?_, ?_, ?_, ?_, trivial⟩ ?_
      · exact fun ac W hL he => stepOk_want rfl (op_move rfl (he.keep (.tmp 3) (by kernel_rfl)))
      · exact fun ac W hL he => stepOk_want rfl (op_move rfl (he.keep (.tmp 4) (by kernel_rfl)))
      · exact fun ac W hL he => stepOk_want rfl (op_idx rfl (he.keep (.tmp 1) (by kernel_rfl)) (he.get 1 10 (by kernel_rfl) rfl) (idxHp hlt) rfl)
      · exact fun ac W hL he => stepOk_want rfl (op_load rfl (he.get 2 11 (by kernel_rfl) rfl) (load8 (hL.cell hcx)) rfl)
      · exact fun ac W hL he => stepOk_want rfl (op_binOp rfl (he.get 3 12 (by kernel_rfl) rfl) rfl eqg_quo (quo16 hcl) rfl)
      · intro ac W hL he; refine stepOk_want rfl ?_; have e0 : ac.eval (.tmp 13) = (.int .u8 ((c.toNat / 16 : Nat) : Int)) := (he.get 4 13 (by kernel_rfl) rfl); exact op_callF (vs := #[.int .u8 ((c.toNat / 16 : Nat) : Int)]) rfl (by simp only [List.map_toArray, List.map_cons, List.map_nil, e0]) (enters_of Try.func34 (by kernel_rfl) rfl) ((sign_any (c.toNat / 16) W (by omega)).mono fun e W' ⟨he', hb⟩ => ⟨_, he', hb ▸ Later.refl _, rfl⟩)
      · exact fun ac W hL he => stepOk_want rfl (op_move rfl (he.keep (.tmp 4) (by kernel_rfl)))
      · exact fun ac W hL he => stepOk_want rfl (op_idx rfl (he.keep (.tmp 1) (by kernel_rfl)) (he.get 6 15 (by kernel_rfl) rfl) (idxHp hlt) rfl)
      · exact fun ac W hL he => stepOk_want rfl (op_load rfl (he.get 7 16 (by kernel_rfl) rfl) (load8 (hL.cell hcx)) rfl)
      · exact fun ac W hL he => stepOk_want rfl (op_binOp rfl (he.get 8 17 (by kernel_rfl) rfl) rfl eqg_rem rem16 rfl)
      · intro ac W hL he; refine stepOk_want rfl ?_; have e0 : ac.eval (.tmp 18) = (.int .u8 ((c.toNat % 16 : Nat) : Int)) := (he.get 9 18 (by kernel_rfl) rfl); exact op_callF (vs := #[.int .u8 ((c.toNat % 16 : Nat) : Int)]) rfl (by simp only [List.map_toArray, List.map_cons, List.map_nil, e0]) (enters_of Try.func34 (by kernel_rfl) rfl) ((sign_any (c.toNat % 16) W (by omega)).mono fun e W' ⟨he', hb⟩ => ⟨_, he', hb ▸ Later.refl _, rfl⟩)
      · intro ac W hL he; refine stepOk_want rfl ?_; have e0 : ac.eval (.tmp 14) = (.int .u8 ((signB (c.toNat / 16)).toNat : Int)) := (he.get 5 14 (by kernel_rfl) rfl); have e1 : ac.eval (.tmp 19) = (.int .u8 ((signB (c.toNat % 16)).toNat : Int)) := (he.get 10 19 (by kernel_rfl) rfl); exact op_buildSlice (W' := _) (vs := #[(0, .int .u8 ((signB (c.toNat / 16)).toNat : Int)), (1, .int .u8 ((signB (c.toNat % 16)).toNat : Int))]) rfl (by simp only [List.map_toArray, List.map_cons, List.map_nil, e0, e1]) (run_bytes2 _ _ _) ((Later.refl W).alloc _) ⟨_, _, rfl, Nat.le_refl _, Rd.lit W _ [signB (c.toNat / 16), signB (c.toNat % 16)]⟩
      · intro xs W2 hL hx hk2 hg
        have e1 := hg 0 9 (by decide) (by kernel_rfl)
        have e2 := hg 11 20 (by decide) (by kernel_rfl)
        have v1 : xs 0 = u3 := hx 0 (by decide)
        obtain ⟨A2, c2, v2, _, hrd2⟩ : ∃ A c', xs 11 = .slice A 2 c' ∧ 2 ≤ c' ∧ Rd W2 A [signB (c.toNat / 16), signB (c.toNat % 16)] := hx 11 (by decide)
        rw [v1] at e1
        rw [v2] at e2
        have hown2 := hown.later hL
        have hr2 := hr.later hL
        have hb2 : Below bh w W2 := hb.trans (hL.mono (by omega))
        have hLs := hL.size
        clear hx hk2 hg v1 v2
        refine ⟨op_append_bytes (.tmp 9) (.tmp 20) 23 rfl (bh + 1) 5 Try.underlying23 (info5 : ByteInfo Try.prog 5) u3 acc e1 hown2 A2 2 c2 _ e2 rfl hrd2 (by omega) (by omega) ?_⟩
        intro v3 W3 hown3 hg3 hat3
        rw [← HNX.out] at hown3
        have hr3 : Row W3 bh 26 (hC h) := hr2.grown hg3 (fun e => by have := (hown2.at_ bh e.symm).1; omega)
        have hb3 : Below bh w W3 := hb2.grown hg3 (by omega) (fun j e => by have := (hown2.at_ j e).1; omega)
        refine op_assignK rfl ?_
        clear e1 e2 hown2 hr2 hrd2 hg3 hat3
        simp only [init2, pen2, last2, putL, Nat.reduceAdd, Act.put, List.setIfInBounds_toArray, List.set_cons_succ, List.set_cons_zero]
        go_wp2_with fail
        go_roundw
        case rel => exact ⟨k + 1, by omega, by go_num, hown3, hr3, hb3⟩
        case measure => simp [intOf]; omega
    · obtain rfl : k = 32 := by omega
      rw [List.take_of_length_le (by rw [HL.out]; omega)] at hown
      obtain ⟨A9, c9, rfl, _, _, hrd9⟩ := hown.slice
      have hcv := run_string_rd wr 23 9 5 A9 (textOf h).length c9 (textOf h) Try.underlying23 Try.underlying5 Try.underlying9 rfl hrd9
      go_wp2
      go_ret
      exact ⟨rfl, by rw [HBH.out]; exact hb⟩
end Go.Proofs.Ytfconncnccgenaa
