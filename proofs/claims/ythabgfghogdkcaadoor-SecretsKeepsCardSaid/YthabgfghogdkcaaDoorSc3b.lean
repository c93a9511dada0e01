/- Walks, secrets: down, by the document; Down, Secret, Point. -/
import Derived.Test.YthabgfghogdkcaaDoorSc3
set_option linter.unusedVariables false
set_option linter.unusedSimpArgs false
namespace Go.Proofs.YthabgfghogdkcaaDoor
open Go.RowKit
theorem convU {x : Nat} (hx : x < 9223372036854775808) {W : World} : (convert 3 52 (.int .i64 (x : Int))).run Tryd.prog W = .ok (.int .u64 (x : Int)) W := by
  have h : (convert 3 52 (.int .i64 (x : Int))).run Tryd.prog W = .ok (.int .u64 (IntKind.u64.wrap (x : Int))) W := by kernel_rfl
  rw [h, IntKind.wrap_u64, show (x : Int) % 18446744073709551616 = x from by omega]
set_option maxHeartbeats 8000000 in
set_option maxRecDepth 100000 in
theorem refDown_any (h : List UInt8) (n ix : Nat) (w : World) (hl : h.length = 32) (hn : n ≤ 31) (hix : ix < 9223372036854775808) :
    Calls Tryd.prog 10 #[.agg (hC h), .int .i64 (n : Int), .int .i64 (ix : Int)] w fun e w' => e = .returned (.agg (hC (Sec.down h n ix))) ∧ Below w.heap.size w w' := by
  have hrow := (Row.new w 23 (hC h)).alloc (.cells (hC []) 23)
  have hrow6 := Row.new (w.alloc (.cells (hC h) 23)) 23 (hC [])
  have hb := below_new2 w (.cells (hC h) 23) (.cells (hC []) 23)
  have HL := Lib.hid hl
  have hbx := boxH h hl
  clear hl
  go_enter Tryd.func10, Tryd.ntmps10
  go_upto_region 1 with (first
    | (with_reducible refine wpList_box rfl 23 (.tmp 0) rfl (.agg (hC h)) rfl (hbx _) ?_)
    | (with_reducible refine wpList_alloc rfl 23 rfl (allocH _) ?_)
    | fail)
  rw [World.size_alloc] at hrow6
  obtain ⟨g, hg⟩ : ∃ g, g = w.heap.size := ⟨_, rfl⟩
  simp only [World.size_alloc]
  rw [← hg] at hrow hrow6 ⊢
  have HG := Lib.hid hg
  have h0 : Sec.run ix ((Sec.bits n).take (n - n)) h = h := by rw [Nat.sub_self]; rfl
  have H0 := Lib.hid h0
  clear hg hbx h0
  generalize (w.alloc (.cells (hC h) 23)).alloc (.cells (hC []) 23) = w1 at *
  go_wp2
  go_loopw [7] (fun t wr => ∃ m : Nat, m ≤ n ∧ t = .int .i64 ((m : Int) - 1) ∧ Row wr g 23 (hC (Sec.run ix ((Sec.bits n).take (n - m)) h)) ∧ Row wr (g + 1) 23 (hC []) ∧ Below w.heap.size w wr) (fun t _ => (intOf t + 1).toNat)
  case atStart => exact ⟨n, by omega, by go_num, by rw [H0.out]; exact hrow, hrow6, hb⟩
  case round =>
    obtain ⟨m, hm, rfl, hr, hr6, hbw⟩ := hrel
    clear hrow hrow6 hb
    have hxl : (Sec.run ix ((Sec.bits n).take (n - m)) h).length = 32 := Sec.run_len _ _ _ HL.out
    rcases m with _ | b
    · have hall : (Sec.bits n).take (n - 0) = Sec.bits n := List.take_of_length_le (by rw [Sec.bits_len]; exact Nat.le_refl _)
      rw [hall] at hr hxl
      have hld := loadH hxl hr
      obtain ⟨w4, hst, hr4, hg4⟩ := storeH (a := []) (b := Sec.run ix (Sec.bits n) h) (by decide) (by rw [hxl]; decide) hr6
      have hdn : Sec.down h n ix = Sec.run ix (Sec.bits n) h := rfl
      have HXL := Lib.hid hxl
      obtain ⟨y, hy⟩ : ∃ y, Sec.run ix (Sec.bits n) h = y := ⟨_, rfl⟩
      rw [hy] at hdn hld hst hr4 HXL
      have HY := Lib.hid hdn
      clear hall hxl hdn hy hr
      go_wp2_with (first
        | (refine wpList_load rfl 23 (.tmp 3) rfl (.pointer (some ⟨g, 0, none⟩)) rfl hld ?_)
        | (refine wpList_store rfl 23 (.tmp 6) (.tmp 34) rfl (.pointer (some ⟨g + 1, 0, none⟩)) (.agg (hC y)) rfl rfl hst ?_)
        | fail)
      refine bodyPost_ret (results_cell_row rfl _ _ (g + 1) 23 (hC y) (0, 0) _ rfl hr4 Tryd.underlying23 rfl (by rw [hC_size _ (by rw [HXL.out]; decide)]; exact infoH)) rfl ⟨by rw [HY.out], hbw.grown hg4 hbw.size (fun j e => by cases e; have := HG.out; omega)⟩
    · rw [show ((b + 1 : Nat) : Int) - 1 = (b : Int) from by omega]
      have hcut := Sec.bits_cut n (n - (b + 1)) (by omega)
      have hsn := Sec.run_snoc ix ((Sec.bits n).take (n - (b + 1))) b h
      rw [show n - 1 - (n - (b + 1)) = b from by omega] at hcut
      rw [← hcut, show n - (b + 1) + 1 = n - b from by omega] at hsn
      have hst : Sec.step ix (Sec.run ix ((Sec.bits n).take (n - (b + 1))) h) b = if ix.testBit b then Sha.sum (Sec.flip (Sec.run ix ((Sec.bits n).take (n - (b + 1))) h) b) else Sec.run ix ((Sec.bits n).take (n - (b + 1))) h := rfl
      have hbit := Sec.bit_dec ix b
      rw [hst] at hsn
      have hd : ix / 2 ^ b < 9223372036854775808 := Nat.lt_of_le_of_lt (Nat.div_le_self _ _) hix
      clear hcut hst
      generalize Sec.run ix ((Sec.bits n).take (n - (b + 1))) h = x at *
      have hb31 : b < 31 := by omega
      have hbs := hbw.size
      have HSN := Lib.hid hsn
      have HXL := Lib.hid hxl
      clear hsn hxl
      cases hbt : ix.testBit b with
      | true =>
        rw [hbt] at hbit
        have hsn := HSN.out
        rw [hbt, if_pos rfl] at hsn
        have HSN' := Lib.hid hsn
        have hx := hC_get x (b / 8) (by rw [HXL.out]; omega) (by rw [HXL.out]; decide)
        have hfe := Sec.flip_eq x b HXL.out (by omega)
        generalize hxv : x[b / 8]'(by rw [HXL.out]; omega) = xv at *
        have hput := hC_put x (b / 8) (xv ^^^ Sec.bit (b % 8)) (by rw [HXL.out]; omega) HXL.out
        rw [← hfe] at hput
        have hfx : (Sec.flip x b).length = 32 := by rw [Sec.flip_len]; exact HXL.out
        have hr2 := hr.set (b / 8) (byteV (xv ^^^ Sec.bit (b % 8)))
        rw [hput] at hr2
        have hg2 := grown_set wr g (b / 8) (byteV (xv ^^^ Sec.bit (b % 8)))
        have hr62 := hr6.grown hg2 (by intro e; injection e with e; omega)
        have hb2 : Below w.heap.size w (wr.setCell ⟨g, b / 8, none⟩ (byteV (xv ^^^ Sec.bit (b % 8)))) := hbw.grown hg2 hbs (fun j e => by cases e; have := HG.out; omega)
        have hcell := (hr.cell (b / 8)).trans hx
        have hfr := hr.frozen (b / 8)
        have hcall := refSum_any (some ⟨g, 0, none⟩) 32 32 (Sec.flip x b) _ hfx (by decide) (rd_hash hfx hr2)
        obtain ⟨y, hy⟩ : ∃ y, Sha.sum (Sec.flip x b) = y := ⟨_, rfl⟩
        have hyl : y.length = 32 := by rw [← hy]; exact Sha.sum_len _
        have hsn2 := HSN'.out
        rw [hy] at hcall hsn2
        have HSN2 := Lib.hid hsn2
        have HYL := Lib.hid hyl
        have HC := Lib.hid hcall
        have HFX := Lib.hid hfx
        clear hsn hsn2 hyl hcall hfx hy hg2 hbt hput hfe hx hxv HSN HSN'
        go_wp2_with (first
          | (refine wpList_binop rfl .shr 2 52 (.tmp 14) (.tmp 16) rfl (.int .i64 (ix : Int)) (.int .u64 (b : Int)) rfl rfl (eqg_any rfl) (shrU (by omega)) ?_)
          | (refine wpList_binop rfl .rem 2 2 (.tmp 17) (.const (.int .i64 2)) rfl (.int .i64 ((ix / 2 ^ b : Nat) : Int)) (.int .i64 ((2 : Nat) : Int)) rfl rfl (eqg_any rfl) (rem64 (by decide) hd (by decide)) ?_)
          | (refine wpList_binop rfl .quo 3 3 (.tmp 20) (.const (.int .i64 8)) rfl (.int .i64 (b : Int)) (.int .i64 ((8 : Nat) : Int)) rfl rfl (eqg_any rfl) (quoI (by decide) (by omega) (by decide)) ?_)
          | (refine wpList_binop rfl .quo 3 3 (.tmp 22) (.const (.int .i64 8)) rfl (.int .i64 (b : Int)) (.int .i64 ((8 : Nat) : Int)) rfl rfl (eqg_any rfl) (quoI (by decide) (by omega) (by decide)) ?_)
          | (refine wpList_binop rfl .rem 3 3 (.tmp 26) (.const (.int .i64 8)) rfl (.int .i64 (b : Int)) (.int .i64 ((8 : Nat) : Int)) rfl rfl (eqg_any rfl) (remI (by decide) (by omega) (by decide)) ?_)
          | (refine wpList_idx rfl 23 (.tmp 3) (.tmp 23) rfl (.pointer (some ⟨g, 0, none⟩)) (.int .i64 ((b / 8 : Nat) : Int)) rfl rfl (idxHp (by omega)) ?_)
          | (refine wpList_idx rfl 23 (.tmp 3) (.tmp 21) rfl (.pointer (some ⟨g, 0, none⟩)) (.int .i64 ((b / 8 : Nat) : Int)) rfl rfl (idxHp (by omega)) ?_)
          | (refine wpList_load rfl 5 (.tmp 24) rfl (.pointer (some ⟨g, b / 8, none⟩)) rfl (load8 hcell) ?_)
          | (refine wpList_binop rfl .shl 5 52 (.const (.int .u8 1)) (.tmp 28) rfl (.int .u8 1) (.int .u64 ((b % 8 : Nat) : Int)) rfl rfl (eqg_any rfl) (shl8u (by omega)) ?_)
          | (refine wpList_binop rfl .xor 5 5 (.tmp 25) (.tmp 29) rfl (.int .u8 (xv.toNat : Int)) (.int .u8 ((Sec.bit (b % 8)).toNat : Int)) rfl rfl (eqg_any rfl) xor8 ?_)
          | (refine wpList_store rfl 5 (.tmp 31) (.tmp 30) rfl (.pointer (some ⟨g, b / 8, none⟩)) (.int .u8 ((xv ^^^ Sec.bit (b % 8)).toNat : Int)) rfl rfl (store8 hcell hfr) ?_)
          | (refine wpList_slice0 rfl 23 (.tmp 3) rfl (.pointer (some ⟨g, 0, none⟩)) rfl (sliceHash _) ?_)
          | (go_at_call 26; refine HC.out.mono ?_; rintro e w3 ⟨rfl, hb3⟩; have hr3 := hr2.belowAll hb3; have hr63 := hr62.belowAll hb3; have hb3' := hb2.trans (hb3.mono hb2.size); obtain ⟨w4, hst, hr4, hg4⟩ := storeH (b := y) (by rw [HFX.out]; decide) (by rw [HYL.out]; decide) hr3; have HB3 := Lib.hid hb3'; clear hb3 hb3' hcell hfr)
          | (refine wpList_store rfl 23 (.tmp 3) (.tmp 33) rfl (.pointer (some ⟨g, 0, none⟩)) (.agg (hC y)) rfl rfl hst ?_)
          | fail)
        go_roundw
        case rel => exact ⟨b, by omega, by go_num, by rw [HSN2.out]; exact hr4, hr63.grown hg4 (by intro e; injection e with e; omega), HB3.out.grown hg4 HB3.out.size (fun j e => by cases e; have := HG.out; omega)⟩
        case measure => simp [intOf]
      | false =>
        rw [hbt] at hbit
        have hsn := HSN.out
        rw [hbt, if_neg (by decide)] at hsn
        have HSN2 := Lib.hid hsn
        clear hsn hbt HSN
        go_wp2_with (first
          | (refine wpList_binop rfl .shr 2 52 (.tmp 14) (.tmp 16) rfl (.int .i64 (ix : Int)) (.int .u64 (b : Int)) rfl rfl (eqg_any rfl) (shrU (by omega)) ?_)
          | (refine wpList_binop rfl .rem 2 2 (.tmp 17) (.const (.int .i64 2)) rfl (.int .i64 ((ix / 2 ^ b : Nat) : Int)) (.int .i64 ((2 : Nat) : Int)) rfl rfl (eqg_any rfl) (rem64 (by decide) hd (by decide)) ?_)
          | fail)
        go_roundw
        case rel => exact ⟨b, by omega, by go_num, by rw [HSN2.out]; exact hr, hr6, hbw⟩
        case measure => simp [intOf]
end Go.Proofs.YthabgfghogdkcaaDoor
