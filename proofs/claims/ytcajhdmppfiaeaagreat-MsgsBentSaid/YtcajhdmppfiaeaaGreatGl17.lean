/- Walks, msgs: the document's Parse. -/
import Derived.Test.YtcajhdmppfiaeaaGreatGl16
import Derived.Test.YtcajhdmppfiaeaaGreatGl12
set_option linter.unusedVariables false
set_option linter.unusedSimpArgs false
namespace Go.Proofs.YtcajhdmppfiaeaaGreat
open Go.RowKit Ms
theorem numR_range (l : List UInt8) (bad : Bool) (most : Int) (h : 0 ≤ most) : 0 ≤ (Wr.numR l bad most).2.1 ∧ (Wr.numR l bad most).2.1 ≤ most := by
  unfold Wr.numR
  split
  · exact ⟨Int.le_refl _, h⟩
  · split
    · exact ⟨Int.le_refl _, h⟩
    · split
      · rename_i h3
        exact ⟨Int.natCast_nonneg _, h3.2⟩
      · exact ⟨Int.le_refl _, h⟩
theorem numR_len (l : List UInt8) (bad : Bool) (most : Int) : (Wr.numR l bad most).1.1.length ≤ l.length := by
  unfold Wr.numR
  split
  · exact Nat.le_refl _
  · split
    · exact Nat.le_refl _
    · split
      · simp only [List.length_drop]; omega
      · exact Nat.le_refl _
section
variable {A0 : Option Addr} {l0 : List UInt8} {v : Value} {r : RdS}
theorem rd_rest_any (hv : RefV A0 l0 v r.l r.bad) (hs : r.s.wf) (hk : (0 ≤ r.s.kind ∧ r.s.kind ≤ 14) ∧ r.s.kind ≠ 1 ∧ r.s.kind ≠ 6 ∧ r.s.kind ≠ 7 ∧ r.s.kind ≠ 8) (hl : r.l.length ≤ 9223372036854775000 ∧ r.s.route.length ≤ 9223372036854775000) (w : World) (hX : Rd w A0 l0) :
    Calls Tryz.prog 48 #[v, .agg (saidC r.s)] w fun e w' => Later w w' ∧ ∃ v', e = .returned (.tuple #[v', .agg (saidC (taken (flds r.s.kind) r).s)]) ∧ RefV A0 l0 v' (taken (flds r.s.kind) r).l (taken (flds r.s.kind) r).bad := by
  have hK : r.s.kind = 0 ∨ r.s.kind = 2 ∨ r.s.kind = 3 ∨ r.s.kind = 4 ∨ r.s.kind = 5 ∨ r.s.kind = 9 ∨ r.s.kind = 10 ∨ r.s.kind = 11 ∨ r.s.kind = 12 ∨ r.s.kind = 13 ∨ r.s.kind = 14 := by omega
  rcases hK with h | h | h | h | h | h | h | h | h | h | h
  · rw [h]; exact rd_rest0 hv hs h hl w hX
  · rw [h]; exact rd_rest2 hv hs h hl w hX
  · rw [h]; exact rd_rest3 hv hs h hl w hX
  · rw [h]; exact rd_rest4 hv hs h hl w hX
  · rw [h]; exact rd_rest5 hv hs h hl w hX
  · rw [h]; exact rd_rest9 hv hs h hl w hX
  · rw [h]; exact rd_rest10 hv hs h hl w hX
  · rw [h]; exact rd_rest11 hv hs h hl w hX
  · rw [h]; exact rd_rest12 hv hs h hl w hX
  · rw [h]; exact rd_rest13 hv hs h hl w hX
  · rw [h]; exact rd_rest14 hv hs h hl w hX
theorem rd_pay_any (hv : RefV A0 l0 v r.l r.bad) (hs : r.s.wf) (hk : r.s.kind = 6 ∨ r.s.kind = 7 ∨ r.s.kind = 8) (hl : r.l.length ≤ 9223372036854775000 ∧ r.s.route.length ≤ 9223372036854775000) (w : World) (hX : Rd w A0 l0) :
    Calls Tryz.prog 47 #[v, .agg (saidC r.s)] w fun e w' => Later w w' ∧ ∃ v', e = .returned (.tuple #[v', .agg (saidC (taken (flds r.s.kind) r).s)]) ∧ RefV A0 l0 v' (taken (flds r.s.kind) r).l (taken (flds r.s.kind) r).bad := by
  rcases hk with h | h | h
  · rw [h]; exact rd_payment6 hv hs h hl w hX
  · rw [h]; exact rd_payment7 hv hs h hl w hX
  · rw [h]; exact rd_payment8 hv hs h hl w hX
theorem rd_open_any (hv : RefV A0 l0 v r.l r.bad) (hs : r.s.wf) (h : r.s.kind = 1) (hl : r.l.length ≤ 9223372036854775000 ∧ r.s.route.length ≤ 9223372036854775000) (w : World) (hX : Rd w A0 l0) :
    Calls Tryz.prog 46 #[v, .agg (saidC r.s)] w fun e w' => Later w w' ∧ ∃ v', e = .returned (.tuple #[v', .agg (saidC (taken (flds r.s.kind) r).s)]) ∧ RefV A0 l0 v' (taken (flds r.s.kind) r).l (taken (flds r.s.kind) r).bad := by
  rw [h]; exact rd_open1 hv hs h hl w hX
end
theorem buildRf1 (A : Option Addr) (n c : Nat) (w : World) : (Instr.build 102 #[(0, .slice A n c)]).run Tryz.prog w = .ok (.agg (rfV A n c false)) w := by kernel_rfl
theorem buildSaidZ (w : World) : (Instr.build 29 #[]).run Tryz.prog w = .ok (.agg (saidC (Ms.blank 0))) w := by kernel_rfl
theorem parse_of {l : List UInt8} {F : RdS} (h : Ms.final l = F) : F.s.wf ∧ F.s.route.length ≤ l.length ∧ Ms.parse l = (if (!F.bad && F.l.isEmpty && Ms.right F.s) = true then F.s else Ms.blank 0) ∧ Ms.parseE l = (if (!F.bad && F.l.isEmpty && Ms.right F.s) = true then 0 else 210) := by
  subst h
  exact ⟨final_wf l, final_route l, rfl, rfl⟩
set_option maxRecDepth 100000 in
set_option maxHeartbeats 8000000 in
theorem refParse_any (A : Option Addr) (n c : Nat) (l : List UInt8) (w : World) (hn : l.length = n) (hc : n ≤ c) (hcm : c ≤ 9223372036854775807) (hnm : n ≤ 9223372036854775000) (hX : Rd w A l) :
    Calls Tryz.prog 16 #[.slice A n c] w fun e w' => e = .returned (.tuple #[.agg (saidC (Ms.parse l)), .int .i64 (Ms.parseE l)]) ∧ Below w.heap.size w w' := by
  have kg := Row.new w 29 (saidC (Ms.blank 0))
  have hlow := below_new w (.cells (saidC (Ms.blank 0)) 29)
  have hX1 := hX.alloc (.cells (saidC (Ms.blank 0)) 29)
  refine Calls.post fun Φ HΦ => ?_
  go_enter Tryz.func16, Tryz.ntmps16
  go_upto_region 1 with (first
    | (with_reducible refine wpList_alloc rfl 29 rfl (allocSaid _) ?_)
    | fail)
  obtain ⟨g, hg⟩ : ∃ q, q = w.heap.size := ⟨_, rfl⟩
  have hgw : w.heap.size ≤ g := Nat.le_of_eq hg.symm
  rw [← hg] at kg ⊢
  clear hg
  generalize w.alloc (.cells (saidC (Ms.blank 0)) 29) = w1 at *
  have hnum := rdNum_any (A0 := A) (l0 := l) (l := l) (v := .agg (rfV A n c false)) (bad := false) ⟨A, c, by rw [hn], by omega, hcm, fun X h => h⟩ 14 w1 hX1 (by omega)
  have hst : Ms.start l = ⟨(Wr.numR l false 14).1.1, (Wr.numR l false 14).1.2, Ms.blank (Wr.numR l false 14).2.1⟩ := rfl
  have hrg := numR_range l false 14 (by decide)
  have hle := numR_len l false 14
  obtain ⟨R, hR⟩ : ∃ R, Wr.numR l false 14 = R := ⟨_, rfl⟩
  rw [hR] at hnum hst hrg hle
  clear hR
  obtain ⟨⟨l', bad'⟩, x, no⟩ := R
  simp only at hnum hst hrg hle
  have HS := Lib.hid hst
  have hln : l.length ≤ 9223372036854775000 := by omega
  have HRG := Lib.hid hrg
  have HLE := Lib.hid hle
  have HLN := Lib.hid hln
  clear hst hn hc hcm hnm hX1 hrg hle hln
  go_upto_region 2 with (first
    | (guard_target =~ wpList _ _ _ (_ :: _) _ _; refine wpList_build rfl 102 _ rfl #[(0, .slice A n c)] (by simp only [List.map_toArray, List.map_cons, List.map_nil]; rfl) (buildRf1 _ _ _ _) ?_)
    | (guard_target =~ wpList _ _ _ (_ :: _) _ _; refine wpList_build rfl 104 _ rfl #[(0, .agg (rfV A n c false))] (by simp only [List.map_toArray, List.map_cons, List.map_nil]; rfl) (buildR1 _ _ _ _ _) ?_)
    | (go_at_call 45; refine hnum.mono ?_; clear hnum; rintro e W1 ⟨hL1, v, rfl, D, c2, rfl, h1, h2, hD⟩; obtain ⟨W2, hst2, k42, hg2⟩ := storeR1 (A' := D) (n' := l'.length) (c' := c2) (bad' := bad') (Row.new W1 104 (rfV none 0 0 false)))
    | (with_reducible refine wpList_alloc rfl 104 rfl (allocR1 _) ?_)
    | (guard_target =~ wpList _ _ _ (_ :: _) _ _; refine wpList_store rfl 104 (.tmp 4) (.tmp 12) rfl (.pointer (some ⟨W1.heap.size, 0, none⟩)) (.agg (rfV D l'.length c2 bad')) rfl rfl hst2 ?_)
    | fail)
  have hL12 : Later w1 W2 := hL1.step (((Later.refl W1).alloc (.cells (rfV none 0 0 false) 104)).grown hg2 (by simp) (fun j e => by cases e; omega))
  have hg4q : g < W1.heap.size := (kg.later hL1).lt
  obtain ⟨q4, hq4⟩ : ∃ q, q = W1.heap.size := ⟨_, rfl⟩
  rw [← hq4] at k42 hg4q ⊢
  have kg2 := kg.later hL12
  have hlow2 := Later.step hlow hL12
  clear hst2 hg2 hL12 hL1 hq4 kg hlow
  obtain ⟨Wp, hst3, k6, hL3⟩ := newSaid W2 (blank_wf x)
  have hq46 : q4 < W2.heap.size := k42.lt
  go_upto_region 3 with (first
    | (guard_target =~ wpList _ _ _ (_ :: _) _ _; refine wpList_build rfl 29 _ rfl #[(0, .int .i64 x)] (by simp only [List.map_toArray, List.map_cons, List.map_nil]; rfl) (buildSaidK _ _) ?_)
    | (with_reducible refine wpList_alloc rfl 29 rfl (allocSaid _) ?_)
    | (guard_target =~ wpList _ _ _ (_ :: _) _ _; refine wpList_store rfl 29 (.tmp 6) (.tmp 15) rfl (.pointer (some ⟨W2.heap.size, 0, none⟩)) (.agg (saidC (Ms.blank x))) rfl rfl hst3 ?_)
    | fail)
  obtain ⟨q6, hq6⟩ : ∃ q, q = W2.heap.size := ⟨_, rfl⟩
  rw [← hq6] at k6 hq46 ⊢
  have kg := kg2.later hL3
  have k4 := k42.later hL3
  have hlow : Below w.heap.size w Wp := Later.step hlow2 hL3
  clear hst3 hL3 hq6 kg2 hlow2 k42
  have hv : RefV A l (.agg (rfV D l'.length c2 bad')) (Ms.start l).l (Ms.start l).bad := by rw [HS.out]; exact ⟨D, c2, rfl, h1, h2, hD⟩
  have hss : (Ms.start l).s = Ms.blank x := by rw [HS.out]
  have hkx : (Ms.start l).s.kind = x := by rw [hss]; rfl
  have hlen : (Ms.start l).l.length ≤ 9223372036854775000 ∧ (Ms.start l).s.route.length ≤ 9223372036854775000 := by
    rw [HS.out]
    exact ⟨Nat.le_trans HLE.out HLN.out, Nat.zero_le _⟩
  have hXW := hX.below hlow
  have hld4 := loadR1 k4
  have hld6 := loadSaid (blank_wf x) k6
  have hrg := HRG.out
  have hln := HLN.out
  clear h1 h2 hD
  have hF0 : Ms.final l = Ms.taken (flds (Ms.start l).s.kind) (Ms.start l) := rfl
  have hwfR := start_wf l
  obtain ⟨F, hFe⟩ : ∃ F, Ms.final l = F := ⟨_, rfl⟩
  rw [hFe] at hF0
  obtain ⟨hwfF, hrtF, hpar, hpe⟩ := parse_of hFe
  have hrtF' : F.s.route.length ≤ 9223372036854775807 := by omega
  have HPAR := Lib.hid hpar
  have HPE := Lib.hid hpe
  clear hFe hpar hpe hrtF
  generalize Ms.start l = R at *
  have hF : F = Ms.taken (flds R.s.kind) R := hF0
  have HF := Lib.hid hF
  have HRT : Hid (∀ W, Calls Tryz.prog 11 #[.agg (saidC F.s)] W fun e w' => e = .returned (.bool (Ms.right F.s)) ∧ Later W w') := Lib.hid (fun W => refRight_any F.s hwfF hrtF' W)
  have HV := Lib.hid hv
  have HKX := Lib.hid hkx
  have HSS := Lib.hid hss
  have HLEN := Lib.hid hlen
  have HXW := Lib.hid hXW
  have HL4 := Lib.hid hld4
  have HL6 := Lib.hid hld6
  have HRG2 := Lib.hid hrg
  clear hF0 hF hv hkx hss hlen hXW hld4 hld6 hrg hln hrtF' HS HRG HLE HLN
  go_upto_region 5 with fail
  refine name_frame fun T0 hT0 => ?_
  rename_i Kr hKr Kc hKc
  have hrest : ∀ (u17 u18 u19 u20 u21 u22 u23 u24 u25 u26 u27 u28 u29 u30 u31 u32 u33 u34 u35 u36 u37 u38 u39 u40 : Value) (X : World) (D3 : Option Addr) (c3 : Nat), Below w.heap.size w X → Row X g 29 (saidC (Ms.blank 0)) → Row X q4 104 (rfV D3 F.l.length c3 F.bad) → Row X q6 29 (saidC F.s) → Kr { tmps := ((((((((((((((((((((((((T0).setIfInBounds 17 u17).setIfInBounds 18 u18).setIfInBounds 19 u19).setIfInBounds 20 u20).setIfInBounds 21 u21).setIfInBounds 22 u22).setIfInBounds 23 u23).setIfInBounds 24 u24).setIfInBounds 25 u25).setIfInBounds 26 u26).setIfInBounds 27 u27).setIfInBounds 28 u28).setIfInBounds 29 u29).setIfInBounds 30 u30).setIfInBounds 31 u31).setIfInBounds 32 u32).setIfInBounds 33 u33).setIfInBounds 34 u34).setIfInBounds 35 u35).setIfInBounds 36 u36).setIfInBounds 37 u37).setIfInBounds 38 u38).setIfInBounds 39 u39).setIfInBounds 40 u40, defers := [] } X := by
    intro u17 u18 u19 u20 u21 u22 u23 u24 u25 u26 u27 u28 u29 u30 u31 u32 u33 u34 u35 u36 u37 u38 u39 u40 X D3 c3 hlow kg k4 k6
    refine hKr _ _ ?_
    rw [hT0]
    simp only [List.setIfInBounds_toArray, List.set_cons_succ, List.set_cons_zero]
    clear hT0 hKr hKc
    obtain ⟨Fl, Fb, Fs⟩ := F
    have ca : X.cell? ⟨q4, 0, none⟩ = some (.slice D3 Fl.length c3) := k4.cell 0
    have cb : X.cell? ⟨q4, 1, none⟩ = some (.bool Fb) := k4.cell 1
    have hwfF : Fs.wf := hwfF
    obtain ⟨W5, hst5, kg5, hg5⟩ := storeSaid (blank_wf 0) (blank_wf 0) kg
    have hlow5 := hlow.grown hg5 hlow.size (fun j e => by injection e with e; omega)
    cases Fb
    · by_cases hl0 : Fl = []
      · subst hl0
        have hld := loadSaid hwfF k6
        obtain ⟨rb, hr⟩ : ∃ b, Ms.right Fs = b := ⟨_, rfl⟩
        have HRT2 : Hid (∀ W, Calls Tryz.prog 11 #[.agg (saidC Fs)] W fun e w' => e = .returned (.bool rb) ∧ Later W w') := Lib.hid (fun W => hr ▸ HRT.out W)
        have HP : Hid ((!false && ([] : List UInt8).isEmpty && Ms.right Fs) = rb) := Lib.hid (by rw [hr]; rfl)
        have K := Lib.hid kg
        have K6 := Lib.hid k6
        have HLOW := Lib.hid hlow
        clear hr kg hlow kg5 hst5 hg5 hlow5 k6 HRT k4
        cases rb
        · go_upto_region 12 with (first
            | (guard_target =~ wpList _ _ _ (_ :: _) _ _; refine wpList_loadG rfl 29 (.tmp 6) rfl (.pointer (some ⟨q6, 0, none⟩)) rfl hld ?_)
            | (go_at_call 11; refine (HRT2.out _).mono ?_; rintro e W6 ⟨rfl, hL6⟩)
            | fail)
          obtain ⟨W7, hst7, kg7, hg7⟩ := storeSaid (blank_wf 0) (blank_wf 0) (K.out.later hL6)
          have hlow7 := (HLOW.out.trans (hL6.below.mono HLOW.out.size)).grown hg7 (Nat.le_trans HLOW.out.size hL6.size) (fun j e => by injection e with e; omega)
          clear hL6
          go_wp2_with (first
            | (guard_target =~ wpList _ _ _ (_ :: _) _ _; refine wpList_build rfl 29 #[] rfl #[] rfl (buildSaidZ _) ?_)
            | (guard_target =~ wpList _ _ _ (_ :: _) _ _; refine wpList_store rfl 29 (.tmp 2) (.tmp 56) rfl (.pointer (some ⟨g, 0, none⟩)) (.agg (saidC (Ms.blank 0))) rfl rfl hst7 ?_)
            | fail)
          exact bodyPost_ret (results_cell_tmp rfl _ _ g 29 (saidC (Ms.blank 0)) (0, 0) _ (.int .i64 210) rfl rfl kg7 Tryz.underlying29 rfl (by rw [saidC_size (blank_wf 0)]; exact infoSaid)) rfl (HΦ.out _ _ ⟨by rw [HPAR.out, HPE.out, HP.out]; rfl, hlow7⟩)
        · go_upto_region 13 with (first
            | (guard_target =~ wpList _ _ _ (_ :: _) _ _; refine wpList_loadG rfl 29 (.tmp 6) rfl (.pointer (some ⟨q6, 0, none⟩)) rfl hld ?_)
            | (go_at_call 11; refine (HRT2.out _).mono ?_; rintro e W6 ⟨rfl, hL6⟩)
            | fail)
          clear hld
          have hld := loadSaid hwfF (K6.out.later hL6)
          obtain ⟨W7, hst7, kg7, hg7⟩ := storeSaid (blank_wf 0) hwfF (K.out.later hL6)
          have hlow7 := (HLOW.out.trans (hL6.below.mono HLOW.out.size)).grown hg7 (Nat.le_trans HLOW.out.size hL6.size) (fun j e => by injection e with e; omega)
          clear hL6
          go_wp2_with (first
            | (guard_target =~ wpList _ _ _ (_ :: _) _ _; refine wpList_load rfl 29 (.tmp 6) rfl (.pointer (some ⟨q6, 0, none⟩)) rfl hld ?_)
            | (guard_target =~ wpList _ _ _ (_ :: _) _ _; refine wpList_store rfl 29 (.tmp 2) (.tmp 57) rfl (.pointer (some ⟨g, 0, none⟩)) (.agg (saidC Fs)) rfl rfl hst7 ?_)
            | fail)
          exact bodyPost_ret (results_cell_tmp rfl _ _ g 29 (saidC Fs) (0, 0) _ (.int .i64 0) rfl rfl kg7 Tryz.underlying29 rfl (by rw [saidC_size hwfF]; exact infoSaid)) rfl (HΦ.out _ _ ⟨by rw [HPAR.out, HPE.out, HP.out]; rfl, hlow7⟩)
      · have HP : Hid ((!false && Fl.isEmpty && Ms.right Fs) = false) := Lib.hid (by cases Fl with | nil => exact absurd rfl hl0 | cons a b => rfl)
        have hpos : decide ((0 : Int) < (Fl.length : Int)) = true := decide_eq_true (by have := List.length_pos_iff.2 hl0; omega)
        have hpos' : decide (0 < Fl.length) = true := decide_eq_true (by have := List.length_pos_iff.2 hl0; omega)
        clear hl0 k6 kg hlow k4 HRT
        go_wp2_with (first
          | (guard_target =~ wpList _ _ _ (_ :: _) _ _; refine wpList_build rfl 29 #[] rfl #[] rfl (buildSaidZ _) ?_)
          | (guard_target =~ wpList _ _ _ (_ :: _) _ _; refine wpList_store rfl 29 (.tmp 2) (.tmp 56) rfl (.pointer (some ⟨g, 0, none⟩)) (.agg (saidC (Ms.blank 0))) rfl rfl hst5 ?_)
          | fail)
        exact bodyPost_ret (results_cell_tmp rfl _ _ g 29 (saidC (Ms.blank 0)) (0, 0) _ (.int .i64 210) rfl rfl kg5 Tryz.underlying29 rfl (by rw [saidC_size (blank_wf 0)]; exact infoSaid)) rfl (HΦ.out _ _ ⟨by rw [HPAR.out, HPE.out, HP.out]; rfl, hlow5⟩)
    · have HP : Hid ((!true && Fl.isEmpty && Ms.right Fs) = false) := Lib.hid rfl
      clear k6 kg hlow k4 HRT
      go_wp2_with (first
        | (guard_target =~ wpList _ _ _ (_ :: _) _ _; refine wpList_build rfl 29 #[] rfl #[] rfl (buildSaidZ _) ?_)
        | (guard_target =~ wpList _ _ _ (_ :: _) _ _; refine wpList_store rfl 29 (.tmp 2) (.tmp 56) rfl (.pointer (some ⟨g, 0, none⟩)) (.agg (saidC (Ms.blank 0))) rfl rfl hst5 ?_)
        | fail)
      exact bodyPost_ret (results_cell_tmp rfl _ _ g 29 (saidC (Ms.blank 0)) (0, 0) _ (.int .i64 210) rfl rfl kg5 Tryz.underlying29 rfl (by rw [saidC_size (blank_wf 0)]; exact infoSaid)) rfl (HΦ.out _ _ ⟨by rw [HPAR.out, HPE.out, HP.out]; rfl, hlow5⟩)
  rw [hT0] at hrest ⊢
  simp only [List.setIfInBounds_toArray, List.set_cons_succ, List.set_cons_zero] at hrest
  clear hT0 hKr
  have HREST := Lib.hid hrest
  clear hrest
  by_cases x1 : x = 1
  · subst x1
    have hcl : Calls Tryz.prog 46 #[.agg (rfV D l'.length c2 bad'), .agg (saidC (Ms.blank 1))] Wp fun e w' => Later Wp w' ∧ ∃ v', e = .returned (.tuple #[v', .agg (saidC F.s)]) ∧ RefV A l v' F.l F.bad := by
      have := rd_open_any (r := R) HV.out hwfR HKX.out HLEN.out Wp HXW.out
      rw [show saidC R.s = saidC (Ms.blank _) by rw [HSS.out], ← HF.out] at this
      exact this
    have HCL := Lib.hid hcl
    have hld4 := HL4.out
    have hld6 := HL6.out
    clear hcl HF HV HKX HSS HLEN HXW HRT HL4 HL6 HPAR HPE
    go_wp2_with (first
      | (guard_target =~ wpList _ _ _ (_ :: _) _ _; refine wpList_load rfl 104 (.tmp 4) rfl (.pointer (some ⟨q4, 0, none⟩)) rfl hld4 ?_)
      | (guard_target =~ wpList _ _ _ (_ :: _) _ _; refine wpList_load rfl 29 (.tmp 6) rfl (.pointer (some ⟨q6, 0, none⟩)) rfl hld6 ?_)
      | (go_at_call 46; refine HCL.out.mono ?_; clear HCL; rintro e Wc ⟨hL3, v, rfl, D3, c3, rfl, _, _, _⟩; obtain ⟨W3, hst4, k43, hg4⟩ := storeR1 (A' := D3) (n' := F.l.length) (c' := c3) (bad' := F.bad) (k4.later hL3); obtain ⟨W4, hst6, k64, hg6⟩ := storeSaid (blank_wf 1) hwfF ((k6.later hL3).grown hg4 (fun e => by injection e with e; omega)))
      | (guard_target =~ wpList _ _ _ (_ :: _) _ _; refine wpList_store rfl 104 (.tmp 4) (.tmp 29) rfl (.pointer (some ⟨q4, 0, none⟩)) (.agg (rfV D3 F.l.length c3 F.bad)) rfl rfl hst4 ?_)
      | (guard_target =~ wpList _ _ _ (_ :: _) _ _; refine wpList_store rfl 29 (.tmp 6) (.tmp 30) rfl (.pointer (some ⟨q6, 0, none⟩)) (.agg (saidC F.s)) rfl rfl hst6 ?_)
      | fail)
    have hlow1 : Below w.heap.size w W3 := (hlow.trans (hL3.below.mono hlow.size)).grown hg4 (Nat.le_trans hlow.size hL3.size) (fun j e => by injection e with e; omega)
    have hlow2 : Below w.heap.size w W4 := hlow1.grown hg6 hlow1.size (fun j e => by injection e with e; omega)
    have kg2 : Row W4 g 29 (saidC (Ms.blank 0)) := ((kg.later hL3).grown hg4 (fun e => by injection e with e; omega)).grown hg6 (fun e => by injection e with e; omega)
    have k42 : Row W4 q4 104 (rfV D3 F.l.length c3 F.bad) := k43.grown hg6 (fun e => by injection e with e; omega)
    exact HREST.out _ _ _ _ _ _ _ _ _ _ _ _ _ _ _ _ _ _ _ _ _ _ _ _ _ _ _ hlow2 kg2 k42 k64
  by_cases x6 : x = 6
  · subst x6
    have hcl : Calls Tryz.prog 47 #[.agg (rfV D l'.length c2 bad'), .agg (saidC (Ms.blank 6))] Wp fun e w' => Later Wp w' ∧ ∃ v', e = .returned (.tuple #[v', .agg (saidC F.s)]) ∧ RefV A l v' F.l F.bad := by
      have := rd_pay_any (r := R) HV.out hwfR (by rw [HKX.out]; exact (by decide : (6 : Int) = 6 ∨ (6 : Int) = 7 ∨ (6 : Int) = 8)) HLEN.out Wp HXW.out
      rw [show saidC R.s = saidC (Ms.blank _) by rw [HSS.out], ← HF.out] at this
      exact this
    have HCL := Lib.hid hcl
    have hld4 := HL4.out
    have hld6 := HL6.out
    clear hcl HF HV HKX HSS HLEN HXW HRT HL4 HL6 HPAR HPE
    go_wp2_with (first
      | (guard_target =~ wpList _ _ _ (_ :: _) _ _; refine wpList_load rfl 104 (.tmp 4) rfl (.pointer (some ⟨q4, 0, none⟩)) rfl hld4 ?_)
      | (guard_target =~ wpList _ _ _ (_ :: _) _ _; refine wpList_load rfl 29 (.tmp 6) rfl (.pointer (some ⟨q6, 0, none⟩)) rfl hld6 ?_)
      | (go_at_call 47; refine HCL.out.mono ?_; clear HCL; rintro e Wc ⟨hL3, v, rfl, D3, c3, rfl, _, _, _⟩; obtain ⟨W3, hst4, k43, hg4⟩ := storeR1 (A' := D3) (n' := F.l.length) (c' := c3) (bad' := F.bad) (k4.later hL3); obtain ⟨W4, hst6, k64, hg6⟩ := storeSaid (blank_wf 6) hwfF ((k6.later hL3).grown hg4 (fun e => by injection e with e; omega)))
      | (guard_target =~ wpList _ _ _ (_ :: _) _ _; refine wpList_store rfl 104 (.tmp 4) (.tmp 39) rfl (.pointer (some ⟨q4, 0, none⟩)) (.agg (rfV D3 F.l.length c3 F.bad)) rfl rfl hst4 ?_)
      | (guard_target =~ wpList _ _ _ (_ :: _) _ _; refine wpList_store rfl 29 (.tmp 6) (.tmp 40) rfl (.pointer (some ⟨q6, 0, none⟩)) (.agg (saidC F.s)) rfl rfl hst6 ?_)
      | fail)
    have hlow1 : Below w.heap.size w W3 := (hlow.trans (hL3.below.mono hlow.size)).grown hg4 (Nat.le_trans hlow.size hL3.size) (fun j e => by injection e with e; omega)
    have hlow2 : Below w.heap.size w W4 := hlow1.grown hg6 hlow1.size (fun j e => by injection e with e; omega)
    have kg2 : Row W4 g 29 (saidC (Ms.blank 0)) := ((kg.later hL3).grown hg4 (fun e => by injection e with e; omega)).grown hg6 (fun e => by injection e with e; omega)
    have k42 : Row W4 q4 104 (rfV D3 F.l.length c3 F.bad) := k43.grown hg6 (fun e => by injection e with e; omega)
    exact HREST.out _ _ _ _ _ _ _ _ _ _ _ _ _ _ _ _ _ _ _ _ _ _ _ _ _ _ _ hlow2 kg2 k42 k64
  by_cases x7 : x = 7
  · subst x7
    have hcl : Calls Tryz.prog 47 #[.agg (rfV D l'.length c2 bad'), .agg (saidC (Ms.blank 7))] Wp fun e w' => Later Wp w' ∧ ∃ v', e = .returned (.tuple #[v', .agg (saidC F.s)]) ∧ RefV A l v' F.l F.bad := by
      have := rd_pay_any (r := R) HV.out hwfR (by rw [HKX.out]; exact (by decide : (7 : Int) = 6 ∨ (7 : Int) = 7 ∨ (7 : Int) = 8)) HLEN.out Wp HXW.out
      rw [show saidC R.s = saidC (Ms.blank _) by rw [HSS.out], ← HF.out] at this
      exact this
    have HCL := Lib.hid hcl
    have hld4 := HL4.out
    have hld6 := HL6.out
    clear hcl HF HV HKX HSS HLEN HXW HRT HL4 HL6 HPAR HPE
    go_wp2_with (first
      | (guard_target =~ wpList _ _ _ (_ :: _) _ _; refine wpList_load rfl 104 (.tmp 4) rfl (.pointer (some ⟨q4, 0, none⟩)) rfl hld4 ?_)
      | (guard_target =~ wpList _ _ _ (_ :: _) _ _; refine wpList_load rfl 29 (.tmp 6) rfl (.pointer (some ⟨q6, 0, none⟩)) rfl hld6 ?_)
      | (go_at_call 47; refine HCL.out.mono ?_; clear HCL; rintro e Wc ⟨hL3, v, rfl, D3, c3, rfl, _, _, _⟩; obtain ⟨W3, hst4, k43, hg4⟩ := storeR1 (A' := D3) (n' := F.l.length) (c' := c3) (bad' := F.bad) (k4.later hL3); obtain ⟨W4, hst6, k64, hg6⟩ := storeSaid (blank_wf 7) hwfF ((k6.later hL3).grown hg4 (fun e => by injection e with e; omega)))
      | (guard_target =~ wpList _ _ _ (_ :: _) _ _; refine wpList_store rfl 104 (.tmp 4) (.tmp 39) rfl (.pointer (some ⟨q4, 0, none⟩)) (.agg (rfV D3 F.l.length c3 F.bad)) rfl rfl hst4 ?_)
      | (guard_target =~ wpList _ _ _ (_ :: _) _ _; refine wpList_store rfl 29 (.tmp 6) (.tmp 40) rfl (.pointer (some ⟨q6, 0, none⟩)) (.agg (saidC F.s)) rfl rfl hst6 ?_)
      | fail)
    have hlow1 : Below w.heap.size w W3 := (hlow.trans (hL3.below.mono hlow.size)).grown hg4 (Nat.le_trans hlow.size hL3.size) (fun j e => by injection e with e; omega)
    have hlow2 : Below w.heap.size w W4 := hlow1.grown hg6 hlow1.size (fun j e => by injection e with e; omega)
    have kg2 : Row W4 g 29 (saidC (Ms.blank 0)) := ((kg.later hL3).grown hg4 (fun e => by injection e with e; omega)).grown hg6 (fun e => by injection e with e; omega)
    have k42 : Row W4 q4 104 (rfV D3 F.l.length c3 F.bad) := k43.grown hg6 (fun e => by injection e with e; omega)
    exact HREST.out _ _ _ _ _ _ _ _ _ _ _ _ _ _ _ _ _ _ _ _ _ _ _ _ _ _ _ hlow2 kg2 k42 k64
  by_cases x8 : x = 8
  · subst x8
    have hcl : Calls Tryz.prog 47 #[.agg (rfV D l'.length c2 bad'), .agg (saidC (Ms.blank 8))] Wp fun e w' => Later Wp w' ∧ ∃ v', e = .returned (.tuple #[v', .agg (saidC F.s)]) ∧ RefV A l v' F.l F.bad := by
      have := rd_pay_any (r := R) HV.out hwfR (by rw [HKX.out]; exact (by decide : (8 : Int) = 6 ∨ (8 : Int) = 7 ∨ (8 : Int) = 8)) HLEN.out Wp HXW.out
      rw [show saidC R.s = saidC (Ms.blank _) by rw [HSS.out], ← HF.out] at this
      exact this
    have HCL := Lib.hid hcl
    have hld4 := HL4.out
    have hld6 := HL6.out
    clear hcl HF HV HKX HSS HLEN HXW HRT HL4 HL6 HPAR HPE
    go_wp2_with (first
      | (guard_target =~ wpList _ _ _ (_ :: _) _ _; refine wpList_load rfl 104 (.tmp 4) rfl (.pointer (some ⟨q4, 0, none⟩)) rfl hld4 ?_)
      | (guard_target =~ wpList _ _ _ (_ :: _) _ _; refine wpList_load rfl 29 (.tmp 6) rfl (.pointer (some ⟨q6, 0, none⟩)) rfl hld6 ?_)
      | (go_at_call 47; refine HCL.out.mono ?_; clear HCL; rintro e Wc ⟨hL3, v, rfl, D3, c3, rfl, _, _, _⟩; obtain ⟨W3, hst4, k43, hg4⟩ := storeR1 (A' := D3) (n' := F.l.length) (c' := c3) (bad' := F.bad) (k4.later hL3); obtain ⟨W4, hst6, k64, hg6⟩ := storeSaid (blank_wf 8) hwfF ((k6.later hL3).grown hg4 (fun e => by injection e with e; omega)))
      | (guard_target =~ wpList _ _ _ (_ :: _) _ _; refine wpList_store rfl 104 (.tmp 4) (.tmp 39) rfl (.pointer (some ⟨q4, 0, none⟩)) (.agg (rfV D3 F.l.length c3 F.bad)) rfl rfl hst4 ?_)
      | (guard_target =~ wpList _ _ _ (_ :: _) _ _; refine wpList_store rfl 29 (.tmp 6) (.tmp 40) rfl (.pointer (some ⟨q6, 0, none⟩)) (.agg (saidC F.s)) rfl rfl hst6 ?_)
      | fail)
    have hlow1 : Below w.heap.size w W3 := (hlow.trans (hL3.below.mono hlow.size)).grown hg4 (Nat.le_trans hlow.size hL3.size) (fun j e => by injection e with e; omega)
    have hlow2 : Below w.heap.size w W4 := hlow1.grown hg6 hlow1.size (fun j e => by injection e with e; omega)
    have kg2 : Row W4 g 29 (saidC (Ms.blank 0)) := ((kg.later hL3).grown hg4 (fun e => by injection e with e; omega)).grown hg6 (fun e => by injection e with e; omega)
    have k42 : Row W4 q4 104 (rfV D3 F.l.length c3 F.bad) := k43.grown hg6 (fun e => by injection e with e; omega)
    exact HREST.out _ _ _ _ _ _ _ _ _ _ _ _ _ _ _ _ _ _ _ _ _ _ _ _ _ _ _ hlow2 kg2 k42 k64
  have d1 : decide (x = 1) = false := decide_eq_false x1
  have d6 : decide (x = 6) = false := decide_eq_false x6
  have d7 : decide (x = 7) = false := decide_eq_false x7
  have d8 : decide (x = 8) = false := decide_eq_false x8
  have hcl : Calls Tryz.prog 48 #[.agg (rfV D l'.length c2 bad'), .agg (saidC (Ms.blank x))] Wp fun e w' => Later Wp w' ∧ ∃ v', e = .returned (.tuple #[v', .agg (saidC F.s)]) ∧ RefV A l v' F.l F.bad := by
    have := rd_rest_any (r := R) HV.out hwfR (by rw [HKX.out]; exact (⟨HRG2.out, x1, x6, x7, x8⟩ : (0 ≤ x ∧ x ≤ 14) ∧ x ≠ 1 ∧ x ≠ 6 ∧ x ≠ 7 ∧ x ≠ 8)) HLEN.out Wp HXW.out
    rw [show saidC R.s = saidC (Ms.blank _) by rw [HSS.out], ← HF.out] at this
    exact this
  have HCL := Lib.hid hcl
  have hld4 := HL4.out
  have hld6 := HL6.out
  clear hcl HF HV HKX HSS HLEN HXW HRT HL4 HL6 HPAR HPE
  go_wp2_with (first
    | (guard_target =~ wpList _ _ _ (_ :: _) _ _; refine wpList_load rfl 104 (.tmp 4) rfl (.pointer (some ⟨q4, 0, none⟩)) rfl hld4 ?_)
    | (guard_target =~ wpList _ _ _ (_ :: _) _ _; refine wpList_load rfl 29 (.tmp 6) rfl (.pointer (some ⟨q6, 0, none⟩)) rfl hld6 ?_)
    | (go_at_call 48; refine HCL.out.mono ?_; clear HCL; rintro e Wc ⟨hL3, v, rfl, D3, c3, rfl, _, _, _⟩; obtain ⟨W3, hst4, k43, hg4⟩ := storeR1 (A' := D3) (n' := F.l.length) (c' := c3) (bad' := F.bad) (k4.later hL3); obtain ⟨W4, hst6, k64, hg6⟩ := storeSaid (blank_wf x) hwfF ((k6.later hL3).grown hg4 (fun e => by injection e with e; omega)))
    | (guard_target =~ wpList _ _ _ (_ :: _) _ _; refine wpList_store rfl 104 (.tmp 4) (.tmp 21) rfl (.pointer (some ⟨q4, 0, none⟩)) (.agg (rfV D3 F.l.length c3 F.bad)) rfl rfl hst4 ?_)
    | (guard_target =~ wpList _ _ _ (_ :: _) _ _; refine wpList_store rfl 29 (.tmp 6) (.tmp 22) rfl (.pointer (some ⟨q6, 0, none⟩)) (.agg (saidC F.s)) rfl rfl hst6 ?_)
    | fail)
  have hlow1 : Below w.heap.size w W3 := (hlow.trans (hL3.below.mono hlow.size)).grown hg4 (Nat.le_trans hlow.size hL3.size) (fun j e => by injection e with e; omega)
  have hlow2 : Below w.heap.size w W4 := hlow1.grown hg6 hlow1.size (fun j e => by injection e with e; omega)
  have kg2 : Row W4 g 29 (saidC (Ms.blank 0)) := ((kg.later hL3).grown hg4 (fun e => by injection e with e; omega)).grown hg6 (fun e => by injection e with e; omega)
  have k42 : Row W4 q4 104 (rfV D3 F.l.length c3 F.bad) := k43.grown hg6 (fun e => by injection e with e; omega)
  exact HREST.out _ _ _ _ _ _ _ _ _ _ _ _ _ _ _ _ _ _ _ _ _ _ _ _ _ _ _ hlow2 kg2 k42 k64
end Go.Proofs.YtcajhdmppfiaeaaGreat
