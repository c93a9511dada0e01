/- Walks, msgs: the law of bodies that are bent. -/
import Derived.Test.YtcajhdmppfiaeaaGreatGl18
set_option linter.unusedVariables false
set_option linter.unusedSimpArgs false
namespace Go.Proofs.YtcajhdmppfiaeaaGreat
open Go.RowKit Ms
theorem body_len {s : Said} (hs : s.wf) (hr : Ms.right s = true) : 0 < (body s).length ∧ (body s).length ≤ 10000 := by
  have h1 := laid_le hs (right_route hr) (flds s.kind) (flds_hash s.kind)
  have h2 := flds_len s.kind
  have h3 := Wr.bytes_le s.kind.toNat
  have h4 : 0 < (Wr.bytes s.kind.toNat).length := by rw [Wr.bytes_len]; split <;> (try split) <;> (try split) <;> omega
  unfold body
  rw [List.length_append]
  omega
theorem Rd.upto {w : World} {A : Option Addr} {l : List UInt8} (h : Rd w A l) (k : Nat) : Rd w A (l.take k) := h.take k
theorem msgsBent_few (s : Said) (hs : s.wf) (hm : s.route.length ≤ 9223372036854775807) (hf : decide (s.route.length ≤ 600) = false) (a : Int) (x : Int) (m : Int) (w : World) :
    Calls Tryz.prog 5 #[.agg (saidC s), .int .i64 a, .int .u8 x, .int .i64 m] w fun e w' => e = .returned (.bool true) ∧ Below w.heap.size w w' := by
  have k1 := Row.new w 29 (saidC s)
  have hb := below_new w (.cells (saidC s) 29)
  have hbx := boxSaid hs w
  have HFW := Lib.hid (fun W => hf ▸ few_any s hs hm W)
  have HLD := Lib.hid (loadSaid hs k1)
  clear k1 hf
  go_enter Tryz.func5, Tryz.ntmps5
  go_upto_region 1 with fail
  clear hbx
  refine wp_region_lit ?_
  refine wpList_load rfl 29 (.tmp 4) rfl (.pointer (some ⟨w.heap.size, 0, none⟩)) rfl HLD.out ?_
  go_wp2_with (first
    | (go_at_call 8; refine (HFW.out _).mono ?_; rintro e w2 ⟨rfl, hL2⟩)
    | (go_at_call 9; refine (works_yes _).mono ?_; rintro e w3 ⟨rfl, hL3⟩)
    | fail)
  go_ret
  exact ⟨rfl, hb.trans ((hL2.trans (hL3.mono hL2.size)).mono hb.size)⟩
set_option maxRecDepth 100000 in
set_option maxHeartbeats 2000000 in
theorem msgsBent_out (s : Said) (hs : s.wf) (hm : s.route.length ≤ 9223372036854775807) (hf : decide (s.route.length ≤ 600) = true) (a : Int) (x : Int) (m : Int) (hr : Ms.right s = false ∨ 20 < m) (w : World) :
    Calls Tryz.prog 5 #[.agg (saidC s), .int .i64 a, .int .u8 x, .int .i64 m] w fun e w' => e = .returned (.bool true) ∧ Below w.heap.size w w' := by
  have k1 := Row.new w 29 (saidC s)
  have hb := below_new w (.cells (saidC s) 29)
  have hbx := boxSaid hs w
  have HFW := Lib.hid (fun W => hf ▸ few_any s hs hm W)
  obtain ⟨rb, hrb⟩ : ∃ b, Ms.right s = b := ⟨_, rfl⟩
  have HRT := Lib.hid (fun W => hrb ▸ refRight_any s hs hm W)
  rw [hrb] at hr
  clear hf hrb
  go_enter Tryz.func5, Tryz.ntmps5
  go_upto_region 1 with fail
  clear hbx
  have HLD := Lib.hid (loadSaid hs k1)
  refine wp_region_lit ?_
  refine wpList_load rfl 29 (.tmp 4) rfl (.pointer (some ⟨w.heap.size, 0, none⟩)) rfl HLD.out ?_
  cases rb
  · clear hr
    go_wp2_with (first
      | (go_at_call 8; refine (HFW.out _).mono ?_; rintro e w2 ⟨rfl, hL2⟩; have hld2 := loadSaid hs (k1.later hL2); clear k1)
      | (guard_target =~ wpList _ _ _ (_ :: _) _ _; refine wpList_loadG rfl 29 (.tmp 4) rfl (.pointer (some ⟨w.heap.size, 0, none⟩)) rfl hld2 ?_)
      | (go_at_call 11; refine (HRT.out _).mono ?_; rintro e w4 ⟨rfl, hL4⟩)
      | (go_at_call 9; refine (works_yes _).mono ?_; rintro e w3 ⟨rfl, hL3⟩)
      | fail)
    go_ret
    exact ⟨rfl, Later.step (Later.step (Later.step hb hL2) hL4) hL3⟩
  · have hm20 : decide (20 < m) = true := decide_eq_true (by rcases hr with h | h; cases h; exact h)
    clear hr
    go_wp2_with (first
      | (go_at_call 8; refine (HFW.out _).mono ?_; rintro e w2 ⟨rfl, hL2⟩; have hld2 := loadSaid hs (k1.later hL2); clear k1)
      | (guard_target =~ wpList _ _ _ (_ :: _) _ _; refine wpList_loadG rfl 29 (.tmp 4) rfl (.pointer (some ⟨w.heap.size, 0, none⟩)) rfl hld2 ?_)
      | (go_at_call 11; refine (HRT.out _).mono ?_; rintro e w4 ⟨rfl, hL4⟩)
      | (go_at_call 9; refine (works_yes _).mono ?_; rintro e w3 ⟨rfl, hL3⟩)
      | fail)
    go_ret
    exact ⟨rfl, Later.step (Later.step (Later.step hb hL2) hL4) hL3⟩
set_option maxRecDepth 100000 in
set_option maxHeartbeats 8000000 in
theorem msgsBent_main (s : Said) (hs : s.wf) (hm : s.route.length ≤ 9223372036854775807) (hf : decide (s.route.length ≤ 600) = true) (hr : Ms.right s = true) (a : Int) (x : Int) (x8 : UInt8) (hx : x = (x8.toNat : Int)) (m : Int) (ha : -9223372036854775808 ≤ a ∧ a ≤ 9223372036854775807) (hmi : -9223372036854775808 ≤ m ∧ m ≤ 20) (w : World) :
    Calls Tryz.prog 5 #[.agg (saidC s), .int .i64 a, .int .u8 x, .int .i64 m] w fun e w' => e = .returned (.bool true) ∧ Below w.heap.size w w' := by
  subst hx
  have k1 := Row.new w 29 (saidC s)
  have hb := below_new w (.cells (saidC s) 29)
  have hbx := boxSaid hs w
  have HFW := Lib.hid (fun W => hf ▸ few_any s hs hm W)
  have HRF := Lib.hid (fun W => refBody_any s hs hr (right_route hr) W)
  have HRT := Lib.hid (fun W => hr ▸ refRight_any s hs hm W)
  have hbl := body_len hs hr
  clear hf hr
  refine Calls.post fun Φ HΦ => ?_
  go_enter Tryz.func5, Tryz.ntmps5
  go_upto_region 1 with fail
  clear hbx
  have HLD := Lib.hid (loadSaid hs k1)
  have hm20 : decide (20 < m) = false := decide_eq_false (by omega)
  refine wp_region_lit ?_
  refine wpList_load rfl 29 (.tmp 4) rfl (.pointer (some ⟨w.heap.size, 0, none⟩)) rfl HLD.out ?_
  go_upto_region 3 with (first
    | (go_at_call 8; refine (HFW.out _).mono ?_; rintro e w2 ⟨rfl, hL2⟩; have k2 := k1.later hL2; have hld2 := loadSaid hs k2; clear k1)
    | (guard_target =~ wpList _ _ _ (_ :: _) _ _; refine wpList_loadG rfl 29 (.tmp 4) rfl (.pointer (some ⟨w.heap.size, 0, none⟩)) rfl hld2 ?_)
    | (go_at_call 11; refine (HRT.out _).mono ?_; rintro e w4 ⟨rfl, hL4⟩)
    | fail)
  have hb4 : Later w w4 := Later.step (Later.step hb hL2) hL4
  have hld4 := loadSaid hs (k2.later hL4)
  clear hm20 hld2 hL2 hL4 hb k2 HLD HFW HRT
  refine wp_region_lit ?_
  refine wpList_load rfl 29 (.tmp 4) rfl (.pointer (some ⟨w.heap.size, 0, none⟩)) rfl hld4 ?_
  clear hld4
  obtain ⟨b, hbb⟩ : ∃ b, body s = b := ⟨_, rfl⟩
  rw [hbb] at HRF hbl
  clear hbb
  go_upto_region 4 with (first
    | (go_at_call 14; refine (HRF.out _).mono ?_; rintro e w5 ⟨v5, rfl, hown, hL5⟩; obtain ⟨g, c, rfl, hg, h1, h2, hrd⟩ := hown.form (by intro h; rw [h] at hbl; simp at hbl))
    | fail)
  obtain ⟨N, hN⟩ : ∃ N, b.length = N := ⟨_, rfl⟩
  rw [hN] at hbl h1 hown ⊢
  have hownB := hown.mono hb4.size
  clear hown
  have hown := hownB
  clear hownB
  have hb5 : Later w w5 := Later.step hb4 hL5
  clear hrd hL5 hb4 HRF hg
  have hcm : c ≤ 9223372036854775807 := h2
  clear h2
  refine name_frame fun T0 hT0 => ?_
  rename_i Kr hKr Kc hKc
  have hrest : ∀ (u29 u30 u31 u32 u33 u34 u35 u36 u37 u38 u39 u40 : Value) (X : World) (b1 : List UInt8), Later w X → Own 5 X w.heap.size (.slice (some ⟨g, 0, none⟩) N c) b1 → b1.length = N → Kr { tmps := ((((((((((((T0).setIfInBounds 29 u29).setIfInBounds 30 u30).setIfInBounds 31 u31).setIfInBounds 32 u32).setIfInBounds 33 u33).setIfInBounds 34 u34).setIfInBounds 35 u35).setIfInBounds 36 u36).setIfInBounds 37 u37).setIfInBounds 38 u38).setIfInBounds 39 u39).setIfInBounds 40 u40, defers := [] } X := by
    intro u29 u30 u31 u32 u33 u34 u35 u36 u37 u38 u39 u40 X b1 hlow hown hb1
    refine hKr _ _ ?_
    rw [hT0]
    simp only [List.setIfInBounds_toArray, List.set_cons_succ, List.set_cons_zero]
    clear hT0 hKr hKc
    by_cases hpos : 0 < m
    · have d1 : decide (0 < m) = true := decide_eq_true hpos
      have d2 : decide (m < 0) = false := decide_eq_false (by omega)
      obtain ⟨k, rfl⟩ : ∃ k : Nat, m = (k : Int) := ⟨m.toNat, by omega⟩
      have hrdX : Rd X (some ⟨g, 0, none⟩) b1 := by
        obtain ⟨A, c', e, _, _, h⟩ := hown.slice
        injection e with e1 e2 e3
        subst e1
        exact h
      have hX0 : w.heap.size ≤ X.heap.size := hlow.size
      go_upto_region 10 with (first
        | (at_builtin; refine wpList_append_bytes rfl (.tmp 43) (.tmp 44) 32 rfl w.heap.size 5 Tryz.underlying32 byteInfo _ [] rfl (own_void X _ _ hlow.size) (some ⟨g, 0, none⟩) N c b1 rfl hb1 (hrdX.alloc _) (by simp; omega) (by simp only [World.size_alloc]; omega) ?_; intro v1 w1 hown1 hg1 hat1; rw [List.nil_append] at hown1; have hL1 : Later w w1 := Below.grown (hlow.alloc (.cells #[] 5)) hg1 (by simp only [World.size_alloc]; omega) (fun j e => (own_void X 5 w.heap.size hlow.size).at_ j e |>.1); obtain ⟨g2, c2, rfl, hg2, hk1, hk2, hkr⟩ := hown1.form (by intro h; rw [h] at hb1; simp at hb1; omega); rw [hb1] at hk1 hown1 ⊢)
        | (at_builtin; refine wpList_append_zeros rfl (.tmp 45) (.tmp 46) 32 3 rfl w.heap.size g2 c2 5 .i64 Tryz.underlying32 Tryz.underlying3 byteInfo b1 N hb1 rfl hown1 k rfl (by omega) hL1.size ?_; intro v2 w2 hown2 hg2' hat2; have hL2 : Later w w2 := Below.grown hL1 hg2' hL1.size (fun j e => by injection e with e; omega); obtain ⟨g3, c3, rfl, hg3, hk3, hk4, hkr3⟩ := hown2.form (by intro h; have := congrArg List.length h; simp only [List.length_append, List.length_replicate, List.length_nil] at this; omega); rw [show (b1 ++ List.replicate k (0 : UInt8)).length = N + k by rw [List.length_append, List.length_replicate, hb1]] at hk3 hown2 ⊢)
        | fail)
      have hrd := hkr3
      have hk4m : c3 ≤ 9223372036854775807 := hk4
      obtain ⟨S, hS⟩ : ∃ S, Ms.parse (b1 ++ List.replicate k (0 : UInt8)) = S := ⟨_, rfl⟩
      obtain ⟨E, hE⟩ : ∃ E, Ms.parseE (b1 ++ List.replicate k (0 : UInt8)) = E := ⟨_, rfl⟩
      have hSw : S.wf := hS ▸ parse_wf _
      have hEi : 0 ≤ E ∧ E ≤ 1000000 := hE ▸ parseE_in _
      have hlen : (b1 ++ List.replicate k (0 : UInt8)).length = (N + k) := by rw [List.length_append, List.length_replicate, hb1]
      have hp := mparse_any (some ⟨g3, 0, none⟩) (N + k) c3 (b1 ++ List.replicate k (0 : UInt8)) w2 hlen (by omega) hrd
      have hf := fun X (hX : Rd X (some ⟨g3, 0, none⟩) (b1 ++ List.replicate k (0 : UInt8))) => refParse_any (some ⟨g3, 0, none⟩) (N + k) c3 (b1 ++ List.replicate k (0 : UInt8)) X hlen (by omega) (by omega) (by omega) hX
      rw [hS, hE] at hp
      simp only [hS, hE] at hf
      have HP := Lib.hid hp
      have HF := Lib.hid hf
      have HW := Lib.hid hL2
      clear hp hf hS hE hown hown1 hown2 hg1 hg2' hat1 hat2 hkr hL1 hL2 hlow hrdX d1 d2
      go_upto_region 11 with (first
        | (go_at_call 15; refine HP.out.mono ?_; rintro e wp ⟨rfl, hbp⟩; obtain ⟨wq, hst, xq, hLq⟩ := newSaid wp hSw)
        | (with_reducible refine wpList_alloc rfl 29 rfl (allocSaid _) ?_)
        | (guard_target =~ wpList _ _ _ (_ :: _) _ _; refine wpList_store rfl 29 (.tmp 10) (.tmp 66) rfl (.pointer (some ⟨wp.heap.size, 0, none⟩)) (.agg (saidC S)) rfl rfl hst ?_)
        | fail)
      obtain ⟨qq, hqq⟩ : ∃ q, q = wp.heap.size := ⟨_, rfl⟩
      rw [← hqq] at xq ⊢
      have hNq : Later w2 wq := Later.step hbp hLq
      have HWq := Lib.hid (Later.step HW.out hNq)
      have HFF := Lib.hid (HF.out wq (hrd.later hNq))
      clear hst hqq hbp hLq hrd hNq HP HF HW
      go_upto_region 12 with (first
        | (go_at_call 16; refine HFF.out.mono ?_; rintro e wr ⟨rfl, hbr⟩; obtain ⟨wt, hst, xt, hLt⟩ := newSaid wr hSw)
        | (with_reducible refine wpList_alloc rfl 29 rfl (allocSaid _) ?_)
        | (guard_target =~ wpList _ _ _ (_ :: _) _ _; refine wpList_store rfl 29 (.tmp 12) (.tmp 71) rfl (.pointer (some ⟨wr.heap.size, 0, none⟩)) (.agg (saidC S)) rfl rfl hst ?_)
        | fail)
      obtain ⟨qt, hqt⟩ : ∃ q, q = wr.heap.size := ⟨_, rfl⟩
      rw [← hqt] at xt ⊢
      have hNt : Later wq wt := Later.step hbr hLt
      have xqt := xq.later hNt
      have HWt := Lib.hid (Later.step HWq.out hNt)
      have HL4 := Lib.hid (loadSaid hSw xqt)
      have HL6 := Lib.hid (loadSaid hSw xt)
      have heq := eqlSaid hSw hSw wt
      rw [decide_eq_true (rfl : S = S)] at heq
      have HEQ := Lib.hid heq
      have HNUM := Lib.hid (num_n E wt hEi)
      clear hst hqt hbr hLt hNt xq xt xqt HFF heq hSw hEi HWq
      go_wp2_with (first
        | (guard_target =~ wpList _ _ _ (_ :: _) _ _; refine wpList_load rfl 29 (.tmp 10) rfl (.pointer (some ⟨qq, 0, none⟩)) rfl HL4.out ?_)
        | (guard_target =~ wpList _ _ _ (_ :: _) _ _; refine wpList_load rfl 29 (.tmp 12) rfl (.pointer (some ⟨qt, 0, none⟩)) rfl HL6.out ?_)
        | (guard_target =~ wpList _ _ _ (_ :: _) _ _; refine wpList_binG rfl .eql 29 _ (.tmp 73) (.tmp 74) rfl (.agg (saidC S)) (.agg (saidC S)) rfl rfl (by kernel_rfl) HEQ.out ?_)
        | (go_at_call 12; refine HNUM.out.mono ?_; rintro e wu ⟨rfl, rfl⟩)
        | (go_at_call 9; refine (works_yes _).mono ?_; rintro e wv ⟨rfl, hLv⟩)
        | fail)
      exact HΦ.out _ _ ⟨rfl, Later.step HWt.out hLv⟩
    · by_cases h0 : m = 0
      · subst h0
        have d1 : decide ((0 : Int) < 0) = false := rfl
        go_upto_region 10 with fail
        have hrd := (by obtain ⟨A, c', e, _, _, h⟩ := hown.slice; injection e with e1 e2 e3; subst e1; exact h : Rd X (some ⟨g, 0, none⟩) b1)
        obtain ⟨S, hS⟩ : ∃ S, Ms.parse (b1) = S := ⟨_, rfl⟩
        obtain ⟨E, hE⟩ : ∃ E, Ms.parseE (b1) = E := ⟨_, rfl⟩
        have hSw : S.wf := hS ▸ parse_wf _
        have hEi : 0 ≤ E ∧ E ≤ 1000000 := hE ▸ parseE_in _
        have hlen : (b1).length = N := hb1
        have hp := mparse_any (some ⟨g, 0, none⟩) N c (b1) X hlen (by omega) hrd
        have hf := fun X (hX : Rd X (some ⟨g, 0, none⟩) (b1)) => refParse_any (some ⟨g, 0, none⟩) N c (b1) X hlen (by omega) (by omega) (by omega) hX
        rw [hS, hE] at hp
        simp only [hS, hE] at hf
        have HP := Lib.hid hp
        have HF := Lib.hid hf
        have HW := Lib.hid hlow
        clear hp hf hS hE hown hlow d1
        go_upto_region 11 with (first
          | (go_at_call 15; refine HP.out.mono ?_; rintro e wp ⟨rfl, hbp⟩; obtain ⟨wq, hst, xq, hLq⟩ := newSaid wp hSw)
          | (with_reducible refine wpList_alloc rfl 29 rfl (allocSaid _) ?_)
          | (guard_target =~ wpList _ _ _ (_ :: _) _ _; refine wpList_store rfl 29 (.tmp 10) (.tmp 66) rfl (.pointer (some ⟨wp.heap.size, 0, none⟩)) (.agg (saidC S)) rfl rfl hst ?_)
          | fail)
        obtain ⟨qq, hqq⟩ : ∃ q, q = wp.heap.size := ⟨_, rfl⟩
        rw [← hqq] at xq ⊢
        have hNq : Later X wq := Later.step hbp hLq
        have HWq := Lib.hid (Later.step HW.out hNq)
        have HFF := Lib.hid (HF.out wq (hrd.later hNq))
        clear hst hqq hbp hLq hrd hNq HP HF HW
        go_upto_region 12 with (first
          | (go_at_call 16; refine HFF.out.mono ?_; rintro e wr ⟨rfl, hbr⟩; obtain ⟨wt, hst, xt, hLt⟩ := newSaid wr hSw)
          | (with_reducible refine wpList_alloc rfl 29 rfl (allocSaid _) ?_)
          | (guard_target =~ wpList _ _ _ (_ :: _) _ _; refine wpList_store rfl 29 (.tmp 12) (.tmp 71) rfl (.pointer (some ⟨wr.heap.size, 0, none⟩)) (.agg (saidC S)) rfl rfl hst ?_)
          | fail)
        obtain ⟨qt, hqt⟩ : ∃ q, q = wr.heap.size := ⟨_, rfl⟩
        rw [← hqt] at xt ⊢
        have hNt : Later wq wt := Later.step hbr hLt
        have xqt := xq.later hNt
        have HWt := Lib.hid (Later.step HWq.out hNt)
        have HL4 := Lib.hid (loadSaid hSw xqt)
        have HL6 := Lib.hid (loadSaid hSw xt)
        have heq := eqlSaid hSw hSw wt
        rw [decide_eq_true (rfl : S = S)] at heq
        have HEQ := Lib.hid heq
        have HNUM := Lib.hid (num_n E wt hEi)
        clear hst hqt hbr hLt hNt xq xt xqt HFF heq hSw hEi HWq
        go_wp2_with (first
          | (guard_target =~ wpList _ _ _ (_ :: _) _ _; refine wpList_load rfl 29 (.tmp 10) rfl (.pointer (some ⟨qq, 0, none⟩)) rfl HL4.out ?_)
          | (guard_target =~ wpList _ _ _ (_ :: _) _ _; refine wpList_load rfl 29 (.tmp 12) rfl (.pointer (some ⟨qt, 0, none⟩)) rfl HL6.out ?_)
          | (guard_target =~ wpList _ _ _ (_ :: _) _ _; refine wpList_binG rfl .eql 29 _ (.tmp 73) (.tmp 74) rfl (.agg (saidC S)) (.agg (saidC S)) rfl rfl (by kernel_rfl) HEQ.out ?_)
          | (go_at_call 12; refine HNUM.out.mono ?_; rintro e wu ⟨rfl, rfl⟩)
          | (go_at_call 9; refine (works_yes _).mono ?_; rintro e wv ⟨rfl, hLv⟩)
          | fail)
        exact HΦ.out _ _ ⟨rfl, Later.step HWt.out hLv⟩
      · have d1 : decide (0 < m) = false := decide_eq_false (by omega)
        have d2 : decide (m < 0) = true := decide_eq_true (by omega)
        have hwn : IntKind.i64.wrap (-(N : Int)) = -(N : Int) := IntWalk.i64_in _ (by omega)
        by_cases hin : -(N : Int) ≤ m
        · have d3 : decide (-(N : Int) ≤ m) = true := decide_eq_true hin
          have hwa : IntKind.i64.wrap ((N : Int) + m) = (N : Int) + m := IntWalk.i64_in _ (by omega)
          have hA1 : (N : Int) + m ≤ (c : Int) := by omega
          have hA2 : (0 : Int) ≤ (N : Int) + m := by omega
          go_upto_region 10 with fail
          have hrd := (by obtain ⟨A, c', e, _, _, h⟩ := hown.slice; injection e with e1 e2 e3; subst e1; exact h.upto ((N : Int) + m).toNat : Rd X (some ⟨g, 0, none⟩) (b1.take ((N : Int) + m).toNat))
          have hA3 : ((N : Int) + m).toNat ≤ c := by omega
          obtain ⟨S, hS⟩ : ∃ S, Ms.parse (b1.take ((N : Int) + m).toNat) = S := ⟨_, rfl⟩
          obtain ⟨E, hE⟩ : ∃ E, Ms.parseE (b1.take ((N : Int) + m).toNat) = E := ⟨_, rfl⟩
          have hSw : S.wf := hS ▸ parse_wf _
          have hEi : 0 ≤ E ∧ E ≤ 1000000 := hE ▸ parseE_in _
          have hlen : (b1.take ((N : Int) + m).toNat).length = ((N : Int) + m).toNat := by rw [List.length_take, hb1]; omega
          have hp := mparse_any (some ⟨g, 0, none⟩) ((N : Int) + m).toNat c (b1.take ((N : Int) + m).toNat) X hlen (by omega) hrd
          have hf := fun X (hX : Rd X (some ⟨g, 0, none⟩) (b1.take ((N : Int) + m).toNat)) => refParse_any (some ⟨g, 0, none⟩) ((N : Int) + m).toNat c (b1.take ((N : Int) + m).toNat) X hlen (by omega) (by omega) (by omega) hX
          rw [hS, hE] at hp
          simp only [hS, hE] at hf
          have HP := Lib.hid hp
          have HF := Lib.hid hf
          have HW := Lib.hid hlow
          clear hp hf hS hE hown hlow d1 d2 d3 hwn hwa hA1 hA2
          go_upto_region 11 with (first
            | (go_at_call 15; refine HP.out.mono ?_; rintro e wp ⟨rfl, hbp⟩; obtain ⟨wq, hst, xq, hLq⟩ := newSaid wp hSw)
            | (with_reducible refine wpList_alloc rfl 29 rfl (allocSaid _) ?_)
            | (guard_target =~ wpList _ _ _ (_ :: _) _ _; refine wpList_store rfl 29 (.tmp 10) (.tmp 66) rfl (.pointer (some ⟨wp.heap.size, 0, none⟩)) (.agg (saidC S)) rfl rfl hst ?_)
            | fail)
          obtain ⟨qq, hqq⟩ : ∃ q, q = wp.heap.size := ⟨_, rfl⟩
          rw [← hqq] at xq ⊢
          have hNq : Later X wq := Later.step hbp hLq
          have HWq := Lib.hid (Later.step HW.out hNq)
          have HFF := Lib.hid (HF.out wq (hrd.later hNq))
          clear hst hqq hbp hLq hrd hNq HP HF HW
          go_upto_region 12 with (first
            | (go_at_call 16; refine HFF.out.mono ?_; rintro e wr ⟨rfl, hbr⟩; obtain ⟨wt, hst, xt, hLt⟩ := newSaid wr hSw)
            | (with_reducible refine wpList_alloc rfl 29 rfl (allocSaid _) ?_)
            | (guard_target =~ wpList _ _ _ (_ :: _) _ _; refine wpList_store rfl 29 (.tmp 12) (.tmp 71) rfl (.pointer (some ⟨wr.heap.size, 0, none⟩)) (.agg (saidC S)) rfl rfl hst ?_)
            | fail)
          obtain ⟨qt, hqt⟩ : ∃ q, q = wr.heap.size := ⟨_, rfl⟩
          rw [← hqt] at xt ⊢
          have hNt : Later wq wt := Later.step hbr hLt
          have xqt := xq.later hNt
          have HWt := Lib.hid (Later.step HWq.out hNt)
          have HL4 := Lib.hid (loadSaid hSw xqt)
          have HL6 := Lib.hid (loadSaid hSw xt)
          have heq := eqlSaid hSw hSw wt
          rw [decide_eq_true (rfl : S = S)] at heq
          have HEQ := Lib.hid heq
          have HNUM := Lib.hid (num_n E wt hEi)
          clear hst hqt hbr hLt hNt xq xt xqt HFF heq hSw hEi HWq
          go_wp2_with (first
            | (guard_target =~ wpList _ _ _ (_ :: _) _ _; refine wpList_load rfl 29 (.tmp 10) rfl (.pointer (some ⟨qq, 0, none⟩)) rfl HL4.out ?_)
            | (guard_target =~ wpList _ _ _ (_ :: _) _ _; refine wpList_load rfl 29 (.tmp 12) rfl (.pointer (some ⟨qt, 0, none⟩)) rfl HL6.out ?_)
            | (guard_target =~ wpList _ _ _ (_ :: _) _ _; refine wpList_binG rfl .eql 29 _ (.tmp 73) (.tmp 74) rfl (.agg (saidC S)) (.agg (saidC S)) rfl rfl (by kernel_rfl) HEQ.out ?_)
            | (go_at_call 12; refine HNUM.out.mono ?_; rintro e wu ⟨rfl, rfl⟩)
            | (go_at_call 9; refine (works_yes _).mono ?_; rintro e wv ⟨rfl, hLv⟩)
            | fail)
          exact HΦ.out _ _ ⟨rfl, Later.step HWt.out hLv⟩
        · have d3 : decide (-(N : Int) ≤ m) = false := decide_eq_false hin
          go_upto_region 10 with fail
          have hrd := (by obtain ⟨A, c', e, _, _, h⟩ := hown.slice; injection e with e1 e2 e3; subst e1; exact h : Rd X (some ⟨g, 0, none⟩) b1)
          obtain ⟨S, hS⟩ : ∃ S, Ms.parse (b1) = S := ⟨_, rfl⟩
          obtain ⟨E, hE⟩ : ∃ E, Ms.parseE (b1) = E := ⟨_, rfl⟩
          have hSw : S.wf := hS ▸ parse_wf _
          have hEi : 0 ≤ E ∧ E ≤ 1000000 := hE ▸ parseE_in _
          have hlen : (b1).length = N := hb1
          have hp := mparse_any (some ⟨g, 0, none⟩) N c (b1) X hlen (by omega) hrd
          have hf := fun X (hX : Rd X (some ⟨g, 0, none⟩) (b1)) => refParse_any (some ⟨g, 0, none⟩) N c (b1) X hlen (by omega) (by omega) (by omega) hX
          rw [hS, hE] at hp
          simp only [hS, hE] at hf
          have HP := Lib.hid hp
          have HF := Lib.hid hf
          have HW := Lib.hid hlow
          clear hp hf hS hE hown hlow d1 d2 d3 hwn
          go_upto_region 11 with (first
            | (go_at_call 15; refine HP.out.mono ?_; rintro e wp ⟨rfl, hbp⟩; obtain ⟨wq, hst, xq, hLq⟩ := newSaid wp hSw)
            | (with_reducible refine wpList_alloc rfl 29 rfl (allocSaid _) ?_)
            | (guard_target =~ wpList _ _ _ (_ :: _) _ _; refine wpList_store rfl 29 (.tmp 10) (.tmp 66) rfl (.pointer (some ⟨wp.heap.size, 0, none⟩)) (.agg (saidC S)) rfl rfl hst ?_)
            | fail)
          obtain ⟨qq, hqq⟩ : ∃ q, q = wp.heap.size := ⟨_, rfl⟩
          rw [← hqq] at xq ⊢
          have hNq : Later X wq := Later.step hbp hLq
          have HWq := Lib.hid (Later.step HW.out hNq)
          have HFF := Lib.hid (HF.out wq (hrd.later hNq))
          clear hst hqq hbp hLq hrd hNq HP HF HW
          go_upto_region 12 with (first
            | (go_at_call 16; refine HFF.out.mono ?_; rintro e wr ⟨rfl, hbr⟩; obtain ⟨wt, hst, xt, hLt⟩ := newSaid wr hSw)
            | (with_reducible refine wpList_alloc rfl 29 rfl (allocSaid _) ?_)
            | (guard_target =~ wpList _ _ _ (_ :: _) _ _; refine wpList_store rfl 29 (.tmp 12) (.tmp 71) rfl (.pointer (some ⟨wr.heap.size, 0, none⟩)) (.agg (saidC S)) rfl rfl hst ?_)
            | fail)
          obtain ⟨qt, hqt⟩ : ∃ q, q = wr.heap.size := ⟨_, rfl⟩
          rw [← hqt] at xt ⊢
          have hNt : Later wq wt := Later.step hbr hLt
          have xqt := xq.later hNt
          have HWt := Lib.hid (Later.step HWq.out hNt)
          have HL4 := Lib.hid (loadSaid hSw xqt)
          have HL6 := Lib.hid (loadSaid hSw xt)
          have heq := eqlSaid hSw hSw wt
          rw [decide_eq_true (rfl : S = S)] at heq
          have HEQ := Lib.hid heq
          have HNUM := Lib.hid (num_n E wt hEi)
          clear hst hqt hbr hLt hNt xq xt xqt HFF heq hSw hEi HWq
          go_wp2_with (first
            | (guard_target =~ wpList _ _ _ (_ :: _) _ _; refine wpList_load rfl 29 (.tmp 10) rfl (.pointer (some ⟨qq, 0, none⟩)) rfl HL4.out ?_)
            | (guard_target =~ wpList _ _ _ (_ :: _) _ _; refine wpList_load rfl 29 (.tmp 12) rfl (.pointer (some ⟨qt, 0, none⟩)) rfl HL6.out ?_)
            | (guard_target =~ wpList _ _ _ (_ :: _) _ _; refine wpList_binG rfl .eql 29 _ (.tmp 73) (.tmp 74) rfl (.agg (saidC S)) (.agg (saidC S)) rfl rfl (by kernel_rfl) HEQ.out ?_)
            | (go_at_call 12; refine HNUM.out.mono ?_; rintro e wu ⟨rfl, rfl⟩)
            | (go_at_call 9; refine (works_yes _).mono ?_; rintro e wv ⟨rfl, hLv⟩)
            | fail)
          exact HΦ.out _ _ ⟨rfl, Later.step HWt.out hLv⟩
  rw [hT0] at hrest ⊢
  simp only [List.setIfInBounds_toArray, List.set_cons_succ, List.set_cons_zero] at hrest
  clear hT0 hKr
  have HREST := Lib.hid hrest
  clear hrest
  by_cases hin : 0 ≤ a ∧ a < (N : Int)
  · have d1 : decide (0 ≤ a) = true := decide_eq_true hin.1
    have d2 : decide (a < (N : Int)) = true := decide_eq_true hin.2
    obtain ⟨i, rfl⟩ : ∃ i : Nat, a = (i : Int) := ⟨a.toNat, by omega⟩
    have hi : i < N := by omega
    have hi' : i < b.length := by omega
    obtain ⟨c1, c2⟩ := hown.cellAt i hi'
    have d3 : decide (i < N) = true := decide_eq_true hi
    have hset := hown.setAt i x8 hi'
    have hlw : Later w (w5.setCell ⟨g, i, none⟩ (byteV x8)) := Below.setCell hb5 (p := ⟨g, i, none⟩) (hown.base_le) _
    clear hown
    go_wp2_with fail
    exact HREST.out _ _ _ _ _ _ _ _ _ _ _ _ _ (b.set i x8) hlw hset (by rw [List.length_set]; exact hN)
  · by_cases ha0 : 0 ≤ a
    · have d1 : decide (0 ≤ a) = true := decide_eq_true ha0
      have d2 : decide (a < (N : Int)) = false := decide_eq_false (by omega)
      go_wp2_with fail
      exact HREST.out _ _ _ _ _ _ _ _ _ _ _ _ _ b hb5 hown hN
    · have d1 : decide (0 ≤ a) = false := decide_eq_false ha0
      go_wp2_with fail
      exact HREST.out _ _ _ _ _ _ _ _ _ _ _ _ _ b hb5 hown hN
theorem msgsBent_walk (v : Value) (a : Int) (wa : (Lit.int .i64 a).wf = true) (x : Int) (wx : (Lit.int .u8 x).wf = true) (m : Int) (wm : (Lit.int .i64 m).wf = true) (w : World) (h : ∃ s : Said, s.wf ∧ s.route.length ≤ 9223372036854775807 ∧ v = .agg (saidC s)) : Calls Tryz.prog 5 #[v, .int .i64 a, .int .u8 x, .int .i64 m] w fun e w' => e = .returned (.bool true) ∧ Below w.heap.size w w' := by
  obtain ⟨s, hs, hm, rfl⟩ := h
  have hai : -9223372036854775808 ≤ a ∧ a ≤ 9223372036854775807 := by
    simp [Lit.wf, IntKind.min, IntKind.max, IntKind.signed, IntKind.bits] at wa
    omega
  have hmi : -9223372036854775808 ≤ m ∧ m ≤ 9223372036854775807 := by
    simp [Lit.wf, IntKind.min, IntKind.max, IntKind.signed, IntKind.bits] at wm
    omega
  cases hf : decide (s.route.length ≤ 600)
  · exact msgsBent_few s hs hm hf a x m w
  · by_cases hr : Ms.right s = false ∨ 20 < m
    · exact msgsBent_out s hs hm hf a x m hr w
    · exact msgsBent_main s hs hm hf (by cases h : Ms.right s; exact absurd (.inl h) hr; rfl) a x (UInt8.ofNat x.toNat) (u8_of_wf wx).symm m hai (by omega) w
end Go.Proofs.YtcajhdmppfiaeaaGreat
