/- Walks, msgs: the document's terms of an opening. -/
import Derived.Test.YtcajhdmppfiaeaaGreatGl1
set_option linter.unusedVariables false
set_option linter.unusedSimpArgs false
namespace Go.Proofs.YtcajhdmppfiaeaaGreat
open Go.RowKit Ms
def rtB (s : Said) : Bool := (s.fund == z32) && ((s.tix == 0) && ((s.key1 == z32) && termsB s))
set_option maxRecDepth 100000 in
set_option maxHeartbeats 2000000 in
theorem refT11_any (s : Said) (hs : s.wf) (w : World) : Calls Tryz.prog 31 #[.agg (termsC s)] w fun e w' => e = .returned (.bool (rtB s)) ∧ Later w w' := by
  have k1 := Row.new w 27 (termsC s)
  have hb := below_new w (.cells (termsC s) 27)
  have hbx := boxTerms hs w
  obtain ⟨b1, h1⟩ : ∃ b, (s.fund == z32) = b := ⟨_, rfl⟩
  obtain ⟨b2, h2⟩ : ∃ b, (s.tix == 0) = b := ⟨_, rfl⟩
  obtain ⟨b3, h3⟩ : ∃ b, (s.key1 == z32) = b := ⟨_, rfl⟩
  obtain ⟨b4, h4⟩ : ∃ b, termsB s = b := ⟨_, rfl⟩
  unfold rtB
  rw [h1, h2, h3, h4]
  have HF := Lib.hid (fun W => h1 ▸ eqlHash s.fund z32 (hs 0 (by decide)) z32_len W)
  have HK := Lib.hid (fun W => h3 ▸ eqlHash s.key1 z32 (hs 2 (by decide)) z32_len W)
  have H4 := Lib.hid h4
  clear h1 h3 h4
  go_enter Tryz.func31, Tryz.ntmps31
  go_upto_region 1 with fail
  obtain ⟨g, hg⟩ : ∃ q, q = w.heap.size := ⟨_, rfl⟩
  rw [← hg] at k1 ⊢
  clear hbx hg
  generalize w.alloc (.cells (termsC s) 27) = w1 at *
  have hld := loadTerms hs k1
  obtain ⟨w2, hst, kq, hL2⟩ := newTerms w1 hs
  have k2 := k1.later hL2
  have hb2 := Later.step hb hL2
  go_upto_region 2 with (first
    | (guard_target =~ wpList _ _ _ (_ :: _) _ _; refine wpList_load rfl 27 (.tmp 1) rfl (.pointer (some ⟨g, 0, none⟩)) rfl hld ?_)
    | (with_reducible refine wpList_alloc rfl 27 rfl (allocTerms _) ?_)
    | (guard_target =~ wpList _ _ _ (_ :: _) _ _; refine wpList_store rfl 27 (.tmp 3) (.tmp 4) rfl (.pointer (some ⟨w1.heap.size, 0, none⟩)) (.agg (termsC s)) rfl rfl hst ?_)
    | fail)
  have hgq : g < w1.heap.size := k1.lt
  obtain ⟨q, hq⟩ : ∃ q, q = w1.heap.size := ⟨_, rfl⟩
  rw [← hq] at kq hgq ⊢
  have hqw : w.heap.size ≤ q := by rw [hq]; exact hb.size
  clear hst hld k1 hb hL2 hq
  have h0 : s.key0.length = 32 := hs 1 (by decide)
  have hld : (Instr.loadAt 24 (.pointer (some ⟨q, 37, none⟩))).run Tryz.prog w2 = .ok (.agg (hC s.key0)) w2 := loadTermK hs kq 0 (by decide)
  obtain ⟨w3, hst, kq3, hg3⟩ := storeTermK hs kq s.key0 h0
  have k3 := k2.grown hg3 (fun e => by injection e with e; omega)
  go_upto_region 3 with (first
    | (guard_target =~ wpList _ _ _ (_ :: _) _ _; refine wpList_load rfl 24 (.tmp 6) rfl (.pointer (some ⟨q, 37, none⟩)) rfl hld ?_)
    | (guard_target =~ wpList _ _ _ (_ :: _) _ _; refine wpList_store rfl 24 (.tmp 9) (.tmp 7) rfl (.pointer (some ⟨q, 69, none⟩)) (.agg (hC s.key0)) rfl rfl hst ?_)
    | fail)
  clear hst hld kq k2
  obtain ⟨x, r, hxr⟩ : ∃ x r, s.key0 = x :: r := by
    cases h : s.key0 with
    | nil => rw [h] at h0; cases h0
    | cons x r => exact ⟨x, r, rfl⟩
  rw [hxr] at kq3
  have hxl : (x :: r).length = 32 := hxr ▸ h0
  have hs3 : (s.setH 2 (x :: r)).wf := Said.setH_wf hs 2 _ hxl
  have c69 : w3.cell? ⟨q, 69, none⟩ = some (.int .u8 (x.toNat : Int)) := (kq3.cell 69).trans (by
    have := termsC_key hs3 1 (by decide) 0 (by decide)
    exact this.trans (by rw [show (s.setH 2 (x :: r)).h (1 + 1) = x :: r from rfl, hC_full _ hxl]; rfl))
  have f69 : w3.frozen? ⟨q, 69, none⟩ = false := kq3.frozen 69
  have k4 := kq3.set 69 (byteV (x + 1))
  rw [show (termsC (s.setH 2 (x :: r))).setIfInBounds 69 (byteV (x + 1)) = termsC (s.setH 2 (bump s.key0)) from by
    rw [hxr]
    exact termsC_put (s' := (s.setH 2 (bump (x :: r)))) hs3 (Said.setH_wf hs 2 _ (by rw [bump_len]; exact hxl)) [byteV (x + 1)] 69 (Nat.le_of_ble_eq_true rfl) (said_key1 hs3 x r (x + 1) rfl)] at k4
  have K4 := Lib.hid k4
  clear k4
  have hg4 := grown_set w3 q 69 (byteV (x + 1))
  have k4 := k3.grown hg4 (fun e => by injection e with e; omega)
  have hb4 : Below w.heap.size w (w3.setCell ⟨q, 69, none⟩ (byteV (x + 1))) := (Below.grown hb2.below hg3 hb2.size (fun j e => by cases e; exact hqw)).setCell hqw _
  have hby : Value.int .u8 (((x.toNat : Int) + 1) % 256) = byteV (x + 1) := by
    unfold byteV
    rw [UInt8.toNat_add]
    congr 1
  have HBY := Lib.hid hby
  clear hby hg4 hg3 hb2 k3 kq3
  have HB4 := Lib.hid hb4
  clear hb4
  go_upto_region 4 with fail
  rw [HBY.out]
  clear c69 f69 HBY
  generalize w3.setCell ⟨q, 69, none⟩ (byteV (x + 1)) = w4 at *
  have hs4 : (s.setH 2 (bump s.key0)).wf := Said.setH_wf hs 2 _ (by rw [bump_len]; exact h0)
  have HLD := Lib.hid (loadTerms hs4 K4.out)
  have hct := refTerms_any _ hs4 w4
  rw [tmB_bump hs, H4.out] at hct
  have HCT := Lib.hid hct
  have HLF : Hid ((Instr.loadAt 24 (.pointer (some ⟨g, 0, none⟩))).run Tryz.prog w4 = .ok (.agg (hC s.fund)) w4) := Lib.hid (by
    have hz : (hC s.fund).size = 32 := hC_size _ (Nat.le_of_eq (hs 0 (by decide)))
    exact run_load_part k4 (fun i hi => termsC_fund hs i (by omega)) Tryz.underlying24 rfl (by rw [hz]; exact infoH))
  have HLK : Hid ((Instr.loadAt 24 (.pointer (some ⟨g, 69, none⟩))).run Tryz.prog w4 = .ok (.agg (hC s.key1)) w4) := Lib.hid (loadTermK hs k4 1 (by decide))
  have c32 : w4.cell? ⟨g, 32, none⟩ = some (.int .i64 s.tix) := (k4.cell _).trans (termsC_n hs 0 (by decide))
  clear hct hxr hxl hs3 k4 K4 h0
  generalize s.setH 2 (bump s.key0) = s' at *
  cases b1
  · go_wp2_with (first
      | (guard_target =~ wpList _ _ _ (_ :: _) _ _; refine wpList_load rfl 24 (.tmp 18) rfl (.pointer (some ⟨g, 0, none⟩)) rfl HLF.out ?_)
      | (guard_target =~ wpList _ _ _ (_ :: _) _ _; refine wpList_build rfl 24 #[] rfl #[] rfl (buildZ _) ?_)
      | (guard_target =~ wpList _ _ _ (_ :: _) _ _; refine wpList_binop rfl .eql 24 _ (.tmp 19) (.tmp 20) rfl (.agg (hC s.fund)) (.agg (hC z32)) rfl rfl (by kernel_rfl) (HF.out _) ?_)
      | fail)
    go_ret
    exact ⟨rfl, HB4.out⟩
  cases b2
  · go_wp2_with (first
      | (guard_target =~ wpList _ _ _ (_ :: _) _ _; refine wpList_load rfl 24 (.tmp 18) rfl (.pointer (some ⟨g, 0, none⟩)) rfl HLF.out ?_)
      | (guard_target =~ wpList _ _ _ (_ :: _) _ _; refine wpList_build rfl 24 #[] rfl #[] rfl (buildZ _) ?_)
      | (guard_target =~ wpList _ _ _ (_ :: _) _ _; refine wpList_binop rfl .eql 24 _ (.tmp 19) (.tmp 20) rfl (.agg (hC s.fund)) (.agg (hC z32)) rfl rfl (by kernel_rfl) (HF.out _) ?_)
      | fail)
    go_ret
    exact ⟨rfl, HB4.out⟩
  cases b3
  · go_wp2_with (first
      | (guard_target =~ wpList _ _ _ (_ :: _) _ _; refine wpList_load rfl 24 (.tmp 18) rfl (.pointer (some ⟨g, 0, none⟩)) rfl HLF.out ?_)
      | (guard_target =~ wpList _ _ _ (_ :: _) _ _; refine wpList_build rfl 24 #[] rfl #[] rfl (buildZ _) ?_)
      | (guard_target =~ wpList _ _ _ (_ :: _) _ _; refine wpList_binop rfl .eql 24 _ (.tmp 19) (.tmp 20) rfl (.agg (hC s.fund)) (.agg (hC z32)) rfl rfl (by kernel_rfl) (HF.out _) ?_)
      | (guard_target =~ wpList _ _ _ (_ :: _) _ _; refine wpList_loadG rfl 24 (.tmp 29) rfl (.pointer (some ⟨g, 69, none⟩)) rfl HLK.out ?_)
      | (guard_target =~ wpList _ _ _ (_ :: _) _ _; refine wpList_buildG rfl 24 #[] rfl #[] rfl (buildZ _) ?_)
      | (guard_target =~ wpList _ _ _ (_ :: _) _ _; refine wpList_binG rfl .eql 24 _ (.tmp 30) (.tmp 31) rfl (.agg (hC s.key1)) (.agg (hC z32)) rfl rfl (by kernel_rfl) (HK.out _) ?_)
      | fail)
    go_ret
    exact ⟨rfl, HB4.out⟩
  · go_wp2_with (first
      | (guard_target =~ wpList _ _ _ (_ :: _) _ _; refine wpList_load rfl 24 (.tmp 18) rfl (.pointer (some ⟨g, 0, none⟩)) rfl HLF.out ?_)
      | (guard_target =~ wpList _ _ _ (_ :: _) _ _; refine wpList_build rfl 24 #[] rfl #[] rfl (buildZ _) ?_)
      | (guard_target =~ wpList _ _ _ (_ :: _) _ _; refine wpList_binop rfl .eql 24 _ (.tmp 19) (.tmp 20) rfl (.agg (hC s.fund)) (.agg (hC z32)) rfl rfl (by kernel_rfl) (HF.out _) ?_)
      | (guard_target =~ wpList _ _ _ (_ :: _) _ _; refine wpList_loadG rfl 24 (.tmp 29) rfl (.pointer (some ⟨g, 69, none⟩)) rfl HLK.out ?_)
      | (guard_target =~ wpList _ _ _ (_ :: _) _ _; refine wpList_buildG rfl 24 #[] rfl #[] rfl (buildZ _) ?_)
      | (guard_target =~ wpList _ _ _ (_ :: _) _ _; refine wpList_binG rfl .eql 24 _ (.tmp 30) (.tmp 31) rfl (.agg (hC s.key1)) (.agg (hC z32)) rfl rfl (by kernel_rfl) (HK.out _) ?_)
      | (guard_target =~ wpList _ _ _ (_ :: _) _ _; refine wpList_loadG rfl 27 (.tmp 3) rfl (.pointer (some ⟨q, 0, none⟩)) rfl HLD.out ?_)
      | (go_at_call 89; refine HCT.out.mono ?_; rintro e w5 ⟨rfl, hL5⟩)
      | fail)
    go_ret
    exact ⟨by simp, HB4.out.trans (hL5.below.mono HB4.out.size)⟩
end Go.Proofs.YtcajhdmppfiaeaaGreat
