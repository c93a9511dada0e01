/- Walks, secrets: down, by the program and by the document; Down, Secret, Point. -/
import Derived.Test.YthabgfghogdkcaaDoorSc2
set_option linter.unusedVariables false
set_option linter.unusedSimpArgs false
namespace Go.Proofs.YthabgfghogdkcaaDoor
open Go.RowKit
theorem buildI1 (x : Int) (W : World) : (Instr.buildSlice 119 1 #[(0, .int .i64 x)]).run Tryd.prog W = .ok (.slice (some ⟨W.heap.size, 0, none⟩) 1 1) (W.alloc (.cells #[.int .i64 x] 3)) := by kernel_rfl
theorem Sec.bit_dec (ix b : Nat) : ((ix : Int) / 2 ^ b % 2 == 1) = ix.testBit b := by
  rw [Nat.testBit_eq_decide_div_mod_eq]
  have e : (ix : Int) / 2 ^ b % 2 = ((ix / 2 ^ b % 2 : Nat) : Int) := by simp
  rw [e]
  by_cases h : ix / 2 ^ b % 2 = 1
  · rw [h]; rfl
  · rw [decide_eq_false h, beq_eq_false_iff_ne]; omega
theorem Sec.run_snoc (ix : Nat) (bs : List Nat) (b : Nat) (h : List UInt8) : Sec.run ix (bs ++ [b]) h = Sec.step ix (Sec.run ix bs h) b := by
  unfold Sec.run
  rw [List.foldl_append]; rfl
theorem Sec.bits_len (n : Nat) : (Sec.bits n).length = n := by simp [Sec.bits]
set_option maxHeartbeats 1000000 in
set_option maxRecDepth 100000 in
theorem down_any (h : List UInt8) (n ix : Nat) (w : World) (hl : h.length = 32) (hn : n ≤ 31) (hix : ix < 9223372036854775808) :
    Calls Tryd.prog 25 #[.agg (hC h), .int .i64 (n : Int), .int .i64 (ix : Int)] w fun e w' => e = .returned (.agg (hC (Sec.down h n ix))) ∧ Below w.heap.size w w' := by
  have hrow := (Row.new w 23 (hC h)).alloc (.cells (hC []) 23)
  have hrow6 := Row.new (w.alloc (.cells (hC h) 23)) 23 (hC [])
  have hb := below_new2 w (.cells (hC h) 23) (.cells (hC []) 23)
  have HL := Lib.hid hl
  have hbx := boxH h hl
  clear hl
  go_enter Tryd.func25, Tryd.ntmps25
  go_upto_region 1 with (first
    | (with_reducible refine wpList_box rfl 23 (.tmp 0) rfl (.agg (hC h)) rfl (hbx _) ?_)
    | (with_reducible refine wpList_alloc rfl 23 rfl (allocH _) ?_)
    | fail)
  rw [World.size_alloc] at hrow6
  obtain ⟨g, hg⟩ : ∃ g, g = w.heap.size := ⟨_, rfl⟩
  simp only [World.size_alloc]
  rw [← hg] at hrow hrow6 ⊢
  have HG := Lib.hid hg
  have h0 : Sec.run ix ((Sec.bits n).take 0) h = h := rfl
  have H0 := Lib.hid h0
  clear hg hbx h0
  generalize (w.alloc (.cells (hC h) 23)).alloc (.cells (hC []) 23) = w1 at *
  go_wp2
  go_loopw [10] (fun t wr => ∃ k : Nat, k ≤ n ∧ t = .int .i64 k ∧ Row wr g 23 (hC (Sec.run ix ((Sec.bits n).take k) h)) ∧ Row wr (g + 1) 23 (hC []) ∧ Below w.heap.size w wr) (fun t _ => n - (intOf t).toNat)
  case atStart => exact ⟨0, by omega, rfl, by rw [H0.out]; exact hrow, hrow6, hb⟩
  case round =>
    obtain ⟨k, hk, rfl, hr, hr6, hbw⟩ := hrel
    clear hrow hrow6 hb
    have hxl : (Sec.run ix ((Sec.bits n).take k) h).length = 32 := Sec.run_len _ _ _ HL.out
    by_cases hlt : k < n
    · have hcut := Sec.bits_cut n k hlt
      have hsn := Sec.run_snoc ix ((Sec.bits n).take k) (n - 1 - k) h
      rw [← hcut] at hsn
      have hst : Sec.step ix (Sec.run ix ((Sec.bits n).take k) h) (n - 1 - k) = if ix.testBit (n - 1 - k) then Sha.sum (Sec.flip (Sec.run ix ((Sec.bits n).take k) h) (n - 1 - k)) else Sec.run ix ((Sec.bits n).take k) h := rfl
      have hbit := Sec.bit_dec ix (n - 1 - k)
      rw [hst] at hsn
      have hd : ix / 2 ^ (n - 1 - k) < 9223372036854775808 := Nat.lt_of_le_of_lt (Nat.div_le_self _ _) hix
      clear hcut hst
      generalize Sec.run ix ((Sec.bits n).take k) h = x at *
      obtain ⟨b, hbe⟩ : ∃ b, n - 1 - k = b := ⟨_, rfl⟩
      have hsub1 := fun W => subI (x := n) (y := 1) (by omega) (by omega) (W := W)
      have hsub2 := fun W => subI (x := n - 1) (y := k) (by omega) (by omega) (W := W)
      rw [hbe] at hsub2 hsn hbit hd
      have hb31 : b < 31 := by omega
      have hbs := hbw.size
      have HSN := Lib.hid hsn
      have HXL := Lib.hid hxl
      have HBE := Lib.hid hbe
      clear hsn hxl hbe
      have hgw := HG.out
      have HG' := Lib.hid hgw
      clear hgw
      cases hbt : ix.testBit b with
      | true =>
        rw [hbt] at hbit
        have hsn := HSN.out
        rw [hbt, if_pos rfl] at hsn
        have HSN' := Lib.hid hsn
        clear hsn hbt
        have hrA := hr.alloc (.cells #[.int .i64 (b : Int)] 3)
        have hqA : (wr.alloc (.cells #[.int .i64 (b : Int)] 3)).cell? ⟨wr.heap.size, 0, none⟩ = some (.int .i64 (b : Int)) := ((Row.new wr _ _).cell 0).trans rfl
        have hfl := flip_any g wr.heap.size x b _ HXL.out (by omega) hrA hqA (by have := hr.lt; omega)
        have HFL := Lib.hid hfl
        clear hfl hqA hrA
        go_wp2_with (first
          | (refine wpList_binop rfl .sub 3 3 (.tmp 13) (.const (.int .i64 1)) rfl (.int .i64 (n : Int)) (.int .i64 ((1 : Nat) : Int)) rfl rfl (eqg_any rfl) (hsub1 _) ?_)
          | (refine wpList_binop rfl .sub 3 3 (.tmp 14) (.tmp 15) rfl (.int .i64 ((n - 1 : Nat) : Int)) (.int .i64 (k : Int)) rfl rfl (eqg_any rfl) (hsub2 _) ?_)
          | (refine wpList_binop rfl .shr 2 3 (.tmp 17) (.tmp 18) rfl (.int .i64 (ix : Int)) (.int .i64 (b : Int)) rfl rfl (eqg_any rfl) (shr64 (by omega)) ?_)
          | (refine wpList_binop rfl .and 2 2 (.tmp 19) (.const (.int .i64 1)) rfl (.int .i64 ((ix / 2 ^ b : Nat) : Int)) (.int .i64 1) rfl rfl (eqg_any rfl) (and64_1 hd) ?_)
          | (refine wpList_buildSl rfl 119 1 _ rfl #[(0, .int .i64 (b : Int))] rfl (buildI1 _ _) ?_)
          | (go_at_call 50; refine HFL.out.mono ?_; rintro e w2 ⟨rfl, hr2, hg2⟩)
          | fail)
        have hfx : (Sec.flip x b).length = 32 := by rw [Sec.flip_len]; exact HXL.out
        have hr62 := ((hr6.alloc (.cells #[.int .i64 (b : Int)] 3)).grown hg2 (by intro e; injection e with e; omega))
        have hb2 : Below w.heap.size w w2 := (hbw.alloc hbs _).grown hg2 (by simp only [World.size_alloc]; omega) (fun j e => by cases e; rw [HG'.out]; exact Nat.le_refl _)
        have hb2s := hb2.size
        have hcall := shaSum_any (some ⟨w2.heap.size, 0, none⟩) 1 1 [Sec.flip x b] _ rfl (by decide) (by simp only [List.flatten_cons, List.flatten_nil, List.append_nil]; omega) (RdsC.one 40 (rfl : w2.heap.size = _) (rd_hash hfx hr2) hfx (Nat.le_refl 32) (by decide))
        simp only [List.flatten_cons, List.flatten_nil, List.append_nil] at hcall
        have hsn := HSN'.out
        obtain ⟨y, hy⟩ : ∃ y, Sha.sum (Sec.flip x b) = y := ⟨_, rfl⟩
        have hyl : y.length = 32 := by rw [← hy]; exact Sha.sum_len _
        rw [hy] at hcall hsn
        have hr2a := hr2.alloc (.cells #[.slice (some ⟨g, 0, none⟩) 32 32] 40)
        have hr62a := hr62.alloc (.cells #[.slice (some ⟨g, 0, none⟩) 32 32] 40)
        have hb2a := hb2.alloc hb2s (.cells #[.slice (some ⟨g, 0, none⟩) 32 32] 40)
        have HSN2 := Lib.hid hsn
        have HYL := Lib.hid hyl
        have HC := Lib.hid hcall
        have HFX := Lib.hid hfx
        clear hsn hyl hcall hfx hy hg2
        go_wp2_with (first
          | (refine wpList_slice0 rfl 23 (.tmp 3) rfl (.pointer (some ⟨g, 0, none⟩)) rfl (sliceHash _) ?_)
          | (refine wpList_buildSl rfl 98 1 _ rfl #[(0, .slice (some ⟨g, 0, none⟩) 32 32)] rfl (build1S _ _ _ _) ?_)
          | (go_at_call 51; refine HC.out.mono ?_; rintro e w3 ⟨rfl, hb3⟩; have hr3 := hr2a.belowAll hb3; have hr63 := hr62a.belowAll hb3; have hb3' := hb2a.trans (hb3.mono hb2a.size); obtain ⟨w4, hst, hr4, hg4⟩ := storeH (b := y) (by rw [HFX.out]; decide) (by rw [HYL.out]; decide) hr3; have HB3 := Lib.hid hb3'; clear hb3 hb3')
          | (refine wpList_store rfl 23 (.tmp 3) (.tmp 27) rfl (.pointer (some ⟨g, 0, none⟩)) (.agg (hC y)) rfl rfl hst ?_)
          | fail)
        go_roundw
        case rel => exact ⟨k + 1, by omega, by go_num, by rw [HSN2.out]; exact hr4, hr63.grown hg4 (by intro e; injection e with e; omega), HB3.out.grown hg4 HB3.out.size (fun j e => by cases e; rw [HG'.out]; exact Nat.le_refl _)⟩
        case measure => simp [intOf]; omega
      | false =>
        rw [hbt] at hbit
        have hsn := HSN.out
        rw [hbt, if_neg (by decide)] at hsn
        have HSN2 := Lib.hid hsn
        clear hsn hbt HSN
        go_wp2_with (first
          | (refine wpList_binop rfl .sub 3 3 (.tmp 13) (.const (.int .i64 1)) rfl (.int .i64 (n : Int)) (.int .i64 ((1 : Nat) : Int)) rfl rfl (eqg_any rfl) (hsub1 _) ?_)
          | (refine wpList_binop rfl .sub 3 3 (.tmp 14) (.tmp 15) rfl (.int .i64 ((n - 1 : Nat) : Int)) (.int .i64 (k : Int)) rfl rfl (eqg_any rfl) (hsub2 _) ?_)
          | (refine wpList_binop rfl .shr 2 3 (.tmp 17) (.tmp 18) rfl (.int .i64 (ix : Int)) (.int .i64 (b : Int)) rfl rfl (eqg_any rfl) (shr64 (by omega)) ?_)
          | (refine wpList_binop rfl .and 2 2 (.tmp 19) (.const (.int .i64 1)) rfl (.int .i64 ((ix / 2 ^ b : Nat) : Int)) (.int .i64 1) rfl rfl (eqg_any rfl) (and64_1 hd) ?_)
          | fail)
        go_roundw
        case rel => exact ⟨k + 1, by omega, by go_num, by rw [HSN2.out]; exact hr, hr6, hbw⟩
        case measure => simp [intOf]; omega
    · obtain rfl : k = n := by omega
      have hall : (Sec.bits k).take k = Sec.bits k := List.take_of_length_le (by rw [Sec.bits_len]; exact Nat.le_refl _)
      rw [hall] at hr hxl
      have hld := loadH hxl hr
      obtain ⟨w4, hst, hr4, hg4⟩ := storeH (a := []) (b := Sec.run ix (Sec.bits k) h) (by decide) (by rw [hxl]; decide) hr6
      have hdn : Sec.down h k ix = Sec.run ix (Sec.bits k) h := rfl
      have HXL := Lib.hid hxl
      obtain ⟨y, hy⟩ : ∃ y, Sec.run ix (Sec.bits k) h = y := ⟨_, rfl⟩
      rw [hy] at hdn hld hst hr4 HXL
      have HY := Lib.hid hdn
      clear hall hxl hdn hy hr
      go_wp2_with (first
        | (refine wpList_load rfl 23 (.tmp 3) rfl (.pointer (some ⟨g, 0, none⟩)) rfl hld ?_)
        | (refine wpList_store rfl 23 (.tmp 6) (.tmp 29) rfl (.pointer (some ⟨g + 1, 0, none⟩)) (.agg (hC y)) rfl rfl hst ?_)
        | fail)
      refine bodyPost_ret (results_cell_row rfl _ _ (g + 1) 23 (hC y) (0, 0) _ rfl hr4 Tryd.underlying23 rfl (by rw [hC_size _ (by rw [HXL.out]; decide)]; exact infoH)) rfl ⟨by rw [HY.out], hbw.grown hg4 hbw.size (fun j e => by cases e; have := HG.out; omega)⟩
end Go.Proofs.YthabgfghogdkcaaDoor
