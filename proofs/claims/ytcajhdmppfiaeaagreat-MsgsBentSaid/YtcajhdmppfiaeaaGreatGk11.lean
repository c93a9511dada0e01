/- Walks, msgs: may an opening be? -/
import Derived.Test.YtcajhdmppfiaeaaGreatGk10
set_option linter.unusedVariables false
set_option linter.unusedSimpArgs false
namespace Go.Proofs.YtcajhdmppfiaeaaGreat
open Go.RowKit Ms
theorem storeTermK {w : World} {q : Nat} {s : Said} (hs : s.wf) (hr : Row w q 27 (termsC s)) (v : List UInt8) (hv : v.length = 32) : ∃ w', (Instr.storeAt 24 (.pointer (some ⟨q, 69, none⟩)) (.agg (hC v))).run Tryz.prog w = .ok () w' ∧ Row w' q 27 (termsC (s.setH 2 v)) ∧ w.grownBy w' (some q) := by
  have hz := hC_size v (Nat.le_of_eq hv)
  refine ⟨_, run_store_row hr (hC v) (by rw [hz]; exact infoH) (by rw [hz, termsC_size hs]; decide) (hC_one v), ?_, grown_setCells _ _ _⟩
  have h2 := row_setCells (hC v).toList 69 w _ hr
  have hl : (hC v).toList.length = 32 := by rw [Array.length_toList, hz]
  rwa [termsC_put hs (Said.setH_wf hs 2 v hv) (hC v).toList 69 (by omega) (saidC_setH hs 2 (by decide) v hv)] at h2
def mopenB (s : Said) : Bool := termsB s && inB s.reserve 0 (s.cap / 10) && decide (s.amount ≤ s.cap - s.fee - s.reserve)
theorem tmB_bump {s : Said} (hs : s.wf) : tmB (s.setH 2 (bump s.key0)) = termsB s := by
  have h0 : s.key0.length = 32 := hs 1 (by decide)
  have hk : kD (s.setH 2 (bump s.key0)) = true := by
    have := bump_ne s.key0 (by intro e; rw [e] at h0; cases h0)
    show (!(s.key0 == bump s.key0)) = true
    simp
    exact fun e => this e.symm
  unfold tmB termsB inB
  rw [hk]
  simp only [Said.setH, Bool.and_true, Bool.and_assoc]
set_option maxRecDepth 100000 in
set_option maxHeartbeats 1000000 in
theorem mopen_any (s : Said) (hs : s.wf) (w : World) : Calls Tryz.prog 76 #[.agg (saidC s)] w fun e w' => e = .returned (.bool (mopenB s)) ∧ Later w w' := by
  have k1 := Row.new w 29 (saidC s)
  have hb := below_new w (.cells (saidC s) 29)
  have hbx := boxSaid hs w
  obtain ⟨b0, h00⟩ : ∃ b, mopenB s = b := ⟨_, rfl⟩
  rw [h00]
  have HOP := Lib.hid h00
  clear h00
  go_enter Tryz.func76, Tryz.ntmps76
  go_upto_region 1 with fail
  obtain ⟨g, hg⟩ : ∃ q, q = w.heap.size := ⟨_, rfl⟩
  rw [← hg] at k1 ⊢
  clear hbx hg
  generalize w.alloc (.cells (saidC s) 29) = w1 at *
  have hld := loadSaidT hs k1
  obtain ⟨w2, hst, kq, hL2⟩ := newTerms w1 hs
  have k2 := k1.later hL2
  have hb2 := Later.step hb hL2
  go_upto_region 2 with (first
    | (guard_target =~ wpList _ _ _ (_ :: _) _ _; refine wpList_load rfl 27 (.tmp 4) rfl (.pointer (some ⟨g, 1, none⟩)) rfl hld ?_)
    | (with_reducible refine wpList_alloc rfl 27 rfl (allocTerms _) ?_)
    | (guard_target =~ wpList _ _ _ (_ :: _) _ _; refine wpList_store rfl 27 (.tmp 3) (.tmp 5) rfl (.pointer (some ⟨w1.heap.size, 0, none⟩)) (.agg (termsC s)) rfl rfl hst ?_)
    | fail)
  have hgq : g < w1.heap.size := k1.lt
  obtain ⟨q, hq⟩ : ∃ q, q = w1.heap.size := ⟨_, rfl⟩
  rw [← hq] at kq hgq ⊢
  have hqw : w.heap.size ≤ q := by rw [hq]; exact hb.size
  clear hst hld k1 hb hL2 hq
  have h0 : s.key0.length = 32 := hs 1 (by decide)
  have hld : (Instr.loadAt 24 (.pointer (some ⟨q, 37, none⟩))).run Tryz.prog w2 = .ok (.agg (hC s.key0)) w2 := loadTermK hs kq 0 (by decide)
  obtain ⟨w3, hst, kq3, hg3⟩ := storeTermK hs kq s.key0 h0
  have k3 := k2.grown hg3 (fun e => by injection e with e; omega)
  go_upto_region 3 with (first
    | (guard_target =~ wpList _ _ _ (_ :: _) _ _; refine wpList_load rfl 24 (.tmp 7) rfl (.pointer (some ⟨q, 37, none⟩)) rfl hld ?_)
    | (guard_target =~ wpList _ _ _ (_ :: _) _ _; refine wpList_store rfl 24 (.tmp 10) (.tmp 8) rfl (.pointer (some ⟨q, 69, none⟩)) (.agg (hC s.key0)) rfl rfl hst ?_)
    | fail)
  clear hst hld kq k2
  obtain ⟨x, r, hxr⟩ : ∃ x r, s.key0 = x :: r := by
    cases h : s.key0 with
    | nil => rw [h] at h0; cases h0
    | cons x r => exact ⟨x, r, rfl⟩
  rw [hxr] at kq3
  have hxl : (x :: r).length = 32 := hxr ▸ h0
  have hs3 : (s.setH 2 (x :: r)).wf := Said.setH_wf hs 2 _ hxl
  have c69 : w3.cell? ⟨q, 69, none⟩ = some (.int .u8 (x.toNat : Int)) := (kq3.cell 69).trans (by
    have := termsC_key hs3 1 (by decide) 0 (by decide)
    exact this.trans (by rw [show (s.setH 2 (x :: r)).h (1 + 1) = x :: r from rfl, hC_full _ hxl]; rfl))
  have f69 : w3.frozen? ⟨q, 69, none⟩ = false := kq3.frozen 69
  have k4 := kq3.set 69 (byteV (x + 1))
  rw [show (termsC (s.setH 2 (x :: r))).setIfInBounds 69 (byteV (x + 1)) = termsC (s.setH 2 (bump s.key0)) from by
    rw [hxr]
    exact termsC_put (s' := (s.setH 2 (bump (x :: r)))) hs3 (Said.setH_wf hs 2 _ (by rw [bump_len]; exact hxl)) [byteV (x + 1)] 69 (Nat.le_of_ble_eq_true rfl) (said_key1 hs3 x r (x + 1) rfl)] at k4
  have K4 := Lib.hid k4
  clear k4
  have hg4 := grown_set w3 q 69 (byteV (x + 1))
  have k4 := k3.grown hg4 (fun e => by injection e with e; omega)
  have hb4 : Below w.heap.size w (w3.setCell ⟨q, 69, none⟩ (byteV (x + 1))) := (Below.grown hb2.below hg3 hb2.size (fun j e => by cases e; exact hqw)).setCell hqw _
  have hby : Value.int .u8 (((x.toNat : Int) + 1) % 256) = byteV (x + 1) := by
    unfold byteV
    rw [UInt8.toNat_add]
    congr 1
  have HBY := Lib.hid hby
  clear hby hg4 hg3 hb2 k3 kq3
  have HB4 := Lib.hid hb4
  clear hb4
  go_upto_region 4 with fail
  rw [HBY.out]
  clear c69 f69 HBY
  generalize w3.setCell ⟨q, 69, none⟩ (byteV (x + 1)) = w4 at *
  have hs4 : (s.setH 2 (bump s.key0)).wf := Said.setH_wf hs 2 _ (by rw [bump_len]; exact h0)
  have hld := loadTerms hs4 K4.out
  have hct := cterms_any _ hs4 w4
  rw [tmB_bump hs] at hct
  have hcells : ∀ W, Later w4 W → ∀ j, j < 12 → W.cell? ⟨g, offN j, none⟩ = some (.int .i64 (s.n j)) := fun W hL j hj => ((k4.later hL).cell _).trans (saidC_n hs j hj)
  have hcellt : ∀ W, Later w4 W → ∀ j, j < 5 → W.cell? ⟨q, 32 + j, none⟩ = some (.int .i64 (s.n j)) := fun W hL j hj => ((K4.out.later hL).cell _).trans (termsC_n hs4 j hj)
  have HC := Lib.hid hcells
  have HT := Lib.hid hcellt
  clear hcells hcellt k4 hxr hxl hs3
  have K5 := K4.out
  clear K4
  generalize s.setH 2 (bump s.key0) = s' at *
  obtain ⟨b1, hb1⟩ : ∃ b, termsB s = b := ⟨_, rfl⟩
  have hop : b0 = (b1 && inB s.reserve 0 (s.cap / 10) && decide (s.amount ≤ s.cap - s.fee - s.reserve)) := by rw [← HOP.out]; unfold mopenB; rw [hb1]
  rw [hb1] at hct
  cases b1
  · obtain rfl : b0 = false := by rw [hop]; rfl
    clear hb1 hop HOP
    refine wp_region_lit ?_
    refine wpList_load rfl 27 (.tmp 3) rfl (.pointer (some ⟨q, 0, none⟩)) rfl hld ?_
    go_wp2_with (first
      | (go_at_call 121; refine hct.mono ?_; clear hct; rintro e w5 ⟨rfl, hL5⟩)
      | fail)
    go_ret
    exact ⟨rfl, HB4.out.trans (hL5.below.mono HB4.out.size)⟩
  · simp only [Bool.true_and] at hop
    have hbd : 1000 ≤ s.cap ∧ s.cap ≤ 1125899906842624 ∧ 0 ≤ s.fee ∧ s.fee ≤ 400 := by
      unfold termsB at hb1
      simp only [Bool.and_eq_true, decide_eq_true_eq] at hb1
      obtain ⟨⟨⟨⟨⟨⟨⟨⟨⟨_, _⟩, h1⟩, h2⟩, _⟩, _⟩, h3⟩, h4⟩, _⟩, _⟩ := hb1
      exact ⟨h1, h2, h3, h4⟩
    obtain ⟨hc1, hc2, hf1, hf2⟩ := hbd
    clear hb1
    obtain ⟨b2, hb2⟩ : ∃ b, inB s.reserve 0 (s.cap / 10) = b := ⟨_, rfl⟩
    rw [hb2] at hop
    have hin := fun W => min_any s.reserve 0 (s.cap / 10) W
    rw [hb2] at hin
    have hrs : b2 = true → 0 ≤ s.reserve ∧ s.reserve ≤ s.cap / 10 := fun e => by
      rw [e] at hb2
      unfold inB at hb2
      simpa using hb2
    have HIN := Lib.hid hin
    clear hb2 hin
    cases b2
    · obtain rfl : b0 = false := by rw [hop]; rfl
      clear hrs hop HOP
      refine wp_region_lit ?_
      refine wpList_load rfl 27 (.tmp 3) rfl (.pointer (some ⟨q, 0, none⟩)) rfl hld ?_
      go_wp2_with (first
        | (go_at_call 121; refine hct.mono ?_; clear hct; rintro e w5 ⟨rfl, hL5⟩; have c102 : w5.cell? ⟨g, 102, none⟩ = some (.int .i64 s.reserve) := HC.out w5 hL5 5 (by decide); have c33 : w5.cell? ⟨q, 33, none⟩ = some (.int .i64 s.cap) := HT.out w5 hL5 1 (by decide))
        | (go_at_call 34; refine (HIN.out _).mono ?_; rintro e w6 ⟨rfl, rfl⟩)
        | fail)
      go_ret
      exact ⟨rfl, HB4.out.trans (hL5.below.mono HB4.out.size)⟩
    · simp only [Bool.true_and] at hop
      obtain ⟨hr1, hr2⟩ := hrs rfl
      clear hrs
      have HOP2 := Lib.hid hop
      clear hop HOP
      refine wp_region_lit ?_
      refine wpList_load rfl 27 (.tmp 3) rfl (.pointer (some ⟨q, 0, none⟩)) rfl hld ?_
      go_wp2_with (first
        | (go_at_call 121; refine hct.mono ?_; clear hct; rintro e w5 ⟨rfl, hL5⟩; have c102 : w5.cell? ⟨g, 102, none⟩ = some (.int .i64 s.reserve) := HC.out w5 hL5 5 (by decide); have c33 : w5.cell? ⟨q, 33, none⟩ = some (.int .i64 s.cap) := HT.out w5 hL5 1 (by decide); have c103 : w5.cell? ⟨g, 103, none⟩ = some (.int .i64 s.amount) := HC.out w5 hL5 6 (by decide); have c35 : w5.cell? ⟨q, 35, none⟩ = some (.int .i64 s.fee) := HT.out w5 hL5 3 (by decide))
        | (go_at_call 34; refine (HIN.out _).mono ?_; rintro e w6 ⟨rfl, rfl⟩)
        | fail)
      go_ret
      exact ⟨by rw [HOP2.out]; rfl, HB4.out.trans (hL5.below.mono HB4.out.size)⟩
end Go.Proofs.YtcajhdmppfiaeaaGreat
