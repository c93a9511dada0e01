/- WireFrames: the walk. -/
import Derived.Test.YtmipaacobioakaaWr48
set_option linter.unusedVariables false
set_option linter.unusedSimpArgs false
namespace Go.Proofs.Ytmipaacobioakaa
open Go.RowKit
attribute [local go_sem] Oper.semAt_some
set_option maxRecDepth 100000 in
set_option maxHeartbeats 32000000 in
theorem wireFrames_main (A : Option Addr) (n c : Nat) (b : List UInt8) (A2 : Option Addr) (n2 c2 : Nat) (s : List UInt8) (many : Int) (w : World) (hn : b.length = n) (hm : n ≤ 500) (hc : n ≤ c) (hcm : c ≤ 9223372036854775807) (hr : Rd w A b) (hn2 : s.length = n2) (hm2 : n2 ≤ 500) (hc2 : n2 ≤ c2) (hcm2 : c2 ≤ 9223372036854775807) (hr2 : Rd w A2 s) (hmany : -9223372036854775808 ≤ many ∧ many ≤ 9223372036854775807) :
    Calls Try.prog 7 #[.slice A n c, .slice A2 n2 c2, .int .i64 many] w fun e w' => e = .returned (.bool true) ∧ Below w.heap.size w w' := by
  refine Calls.post fun Φ HΦ => ?_
  have k5 := (Row.new w 3 #[.int .i64 many]).alloc (.cells #[.bool false] 4)
  have k6 := Row.new (w.alloc (.cells #[.int .i64 many] 3)) 4 #[.bool false]
  have hL1 := ((Later.refl w).alloc (.cells #[.int .i64 many] 3)).alloc (.cells #[.bool false] 4)
  simp only [World.size_alloc] at k6
  have HN := Lib.hid hn
  have HN2 := Lib.hid hn2
  clear hn hn2
  refine (callsIn_wide (n := 10)).1 ?_
  refine callsIn_of_wp_marks Try.func7 rfl trivial ?_ rfl
  simp only [Try.ntmps7, List.size_toArray, List.length_cons, List.length_nil, Nat.reduceAdd, Nat.reduceSub, Array.replicate_succ, Array.replicate_zero, List.push_toArray, List.append_toArray, List.nil_append, List.cons_append]
  refine wpIn_wide.2 ?_
  have d1 : decide ((500 : Int) < (n : Int)) = false := decide_eq_false (by omega)
  have d1' : decide (500 < n) = false := decide_eq_false (by omega)
  have d2 : decide ((500 : Int) < (n2 : Int)) = false := decide_eq_false (by omega)
  have d2' : decide (500 < n2) = false := decide_eq_false (by omega)
  go_upto_region 3 with fail
  obtain ⟨q, hq⟩ : ∃ q, q = w.heap.size := ⟨_, rfl⟩
  rw [← hq] at k5 k6 ⊢
  have HQ := Lib.hid hq
  clear hq d1 d1' d2 d2'
  generalize (w.alloc (.cells #[.int .i64 many] 3)).alloc (.cells #[.bool false] 4) = w1 at *
  have hq1 := k6.lt
  have hfrm := frame_any A n c b w1 HN.out (by omega) (hr.later hL1)
  rw [if_pos (by omega), if_pos (by omega)] at hfrm
  obtain ⟨F, hF⟩ : ∃ F, Wr.frame b = F := ⟨_, rfl⟩
  rw [hF] at hfrm
  obtain ⟨⟨bd, sz, er⟩, hR⟩ : ∃ R, Wr.splitR s = R := ⟨_, rfl⟩
  obtain ⟨FN, hFN⟩ : ∃ x, F.length = x := ⟨_, rfl⟩
  obtain ⟨BN, hBN⟩ : ∃ x, bd.length = x := ⟨_, rfl⟩
  have HF := Lib.hid hF
  have HR := Lib.hid hR
  have HFN := Lib.hid hFN
  have HBN := Lib.hid hBN
  clear hF hR hFN hBN
  go_upto_region 4 with (first
    | (go_at_call 29; refine hfrm.mono ?_; clear hfrm; rintro e w2 ⟨v7, rfl, hown7, hL2⟩; obtain ⟨A7, c7, e7, hc7, hcm7, hrd7⟩ := hown7.slice; rw [HFN.out] at e7 hc7; subst e7)
    | fail)
  have hL12 : Later w1 w2 := hL2
  have hsp := split_any A2 n2 c2 s w2 HN2.out hc2 hcm2 ((hr2.later hL1).later hL12)
  rw [HR.out] at hsp
  clear hown7 hc7 hcm7 hL2
  go_upto_region 5 with (first
    | (go_at_call 30; refine hsp.mono ?_; clear hsp; rintro e w3 ⟨v9, rfl, hown9, hL3⟩; obtain ⟨A9, c9, e9, hc9, hcm9, hrd9⟩ := hown9.slice; rw [HBN.out] at e9 hc9; subst e9)
    | fail)
  have hL13 : Later w1 w3 := hL12.step hL3
  have hrsp := refSplit_any A2 n2 c2 s w3 HN2.out hc2 hcm2 (by omega) ((hr2.later hL1).later hL13)
  rw [HR.out] at hrsp
  simp only [HBN.out] at hrsp
  have hrd73 := hrd7.later hL3
  clear hown9 hc9 hcm9 hL3 hL12 hrd7
  go_upto_region 6 with (first
    | (go_at_call 31; refine hrsp.mono ?_; clear hrsp; rintro e w4 ⟨A12, c12, rfl, hA12, hL4⟩)
    | fail)
  have hL14 : Later w1 w4 := hL13.step hL4
  have hrd74 := hrd73.later hL4
  have hrd94 := hrd9.later hL4
  have hrd124 := hA12 w4 ((hr2.later hL1).later hL14)
  have hrf := fun W (hL : Later w4 W) => refFrame_any A n c b W HN.out (by omega) (((hr.later hL1).later hL14).later hL)
  rw [HF.out] at hrf
  have HRF := Lib.hid hrf
  clear hL13 hrd73 hrd9 hA12 hL4 hrf
  refine (wpIn_wide (n := 0)).1 ?_
  refine wpIn_region_vals wide_wide [Pr.eq (.int .i64 0), Pr.eq (.int .i64 0), Pr.eq (.bool false), Pr.eq (.bool false), Pr.eq (.slice A7 FN c7), Pr.eq (.string ⟨F.toArray⟩), Pr.eq (.slice A n c), Pr.rd F.length F, Pr.eq (.string ⟨F.toArray⟩), Pr.eq (.bool false), Pr.eq (.bool false), Pr.eq (.bool false), Pr.eq (.slice A9 BN c9), Pr.eq (.string ⟨bd.toArray⟩), Pr.eq (.slice A12 BN c12), Pr.eq (.string ⟨bd.toArray⟩), Pr.eq (.bool false), Pr.eq (.bool false), Pr.eq (.bool false), Pr.eq (.int .i64 sz), Pr.eq (.int .i64 sz), Pr.eq (.bool false), Pr.eq (.bool false), Pr.eq (.bool false), Pr.eq (.int .i64 er), Pr.eq (.int .i64 er), Pr.eq (.int .i64 er), Pr.eq (.bool false), Pr.eq (.bool false)] (by kernel_rfl) (by kernel_rfl) (by kernel_rfl) (by kernel_rfl) (by kernel_rfl) ⟨?_, ?_, ?_, ?_, ?_, ?_, ?_, ?_, ?_, ?_, ?_, ?_, ?_, ?_, ?_, ?_, ?_, ?_, ?_, ?_, ?_, ?_, ?_, ?_, ?_, ?_, ?_, ?_, ?_, trivial⟩ ?_
  · exact fun ac W hL he => stepOk_want rfl (op_move rfl (he.keep (.tmp 8) (by kernel_rfl)))
  · intro ac W hL he; refine stepOk_want rfl ?_; have e0 : ac.eval (.tmp 50) = .int .i64 0 := (he.get 0 50 (by kernel_rfl) rfl); exact op_callF (vs := #[.int .i64 0]) rfl (by simp only [List.map_toArray, List.map_cons, List.map_nil, e0]) (enters_of Try.func13 (by kernel_rfl) rfl) ((numE_any 0 W).mono fun e W' ⟨he', hw'⟩ => ⟨_, he', hw' ▸ Later.refl _, rfl⟩)
  · exact fun ac W hL he => stepOk_want rfl (op_binOp rfl (he.get 1 51 (by kernel_rfl) rfl) rfl eqgI (neqI_me _ _ _) rfl)
  · exact fun ac W hL he => stepOk_want rfl (op_move rfl (he.get 2 52 (by kernel_rfl) rfl))
  · exact fun ac W hL he => stepOk_yes (j := 3) (t := 53) (b := false) rfl rfl (he.get 3 53 (by kernel_rfl) rfl) (op_move rfl (he.keep (.tmp 7) (by kernel_rfl)))
  · exact fun ac W hL he => stepOk_yes (j := 3) (t := 53) (b := false) rfl rfl (he.get 3 53 (by kernel_rfl) rfl) (op_convert rfl (he.get 4 54 (by kernel_rfl) rfl) (strOf (hrd74.later hL) HFN.out) (Later.refl _) rfl)
  · exact fun ac W hL he => stepOk_yes (j := 3) (t := 53) (b := false) rfl rfl (he.get 3 53 (by kernel_rfl) rfl) (op_move rfl (he.keep (.tmp 0) (by kernel_rfl)))
  · intro ac W hL he; refine stepOk_yes (j := 3) (t := 53) (b := false) rfl rfl (he.get 3 53 (by kernel_rfl) rfl) ?_; have e0 : ac.eval (.tmp 56) = .slice A n c := he.get 6 56 (by kernel_rfl) rfl; exact op_callF (vs := #[.slice A n c]) rfl (by simp only [List.map_toArray, List.map_cons, List.map_nil, e0]) (enters_of Try.func32 (by kernel_rfl) rfl) ((HRF.out W hL).mono fun e W' ⟨v, he', hown, hL'⟩ => ⟨v, he', hL', own_rd hown⟩)
  · intro ac W hL he; refine stepOk_yes (j := 3) (t := 53) (b := false) rfl rfl (he.get 3 53 (by kernel_rfl) rfl) ?_; obtain ⟨A5, c5, e0, hc5, hrd5⟩ := he.get 7 57 (by kernel_rfl) rfl; exact op_convert rfl e0 (strOf hrd5 rfl) (Later.refl _) rfl
  · exact fun ac W hL he => stepOk_yes (j := 3) (t := 53) (b := false) rfl rfl (he.get 3 53 (by kernel_rfl) rfl) (op_binOp rfl (he.get 5 55 (by kernel_rfl) rfl) (he.get 8 58 (by kernel_rfl) rfl) eqgS (neqS_self _ _) rfl)
  · exact fun ac W hL he => stepOk_want rfl (op_pick (b := false) rfl (he.get 3 53 (by kernel_rfl) rfl) (he.get 9 59 (by kernel_rfl) rfl))
  · exact fun ac W hL he => stepOk_want rfl (op_move rfl (he.get 10 60 (by kernel_rfl) rfl))
  · exact fun ac W hL he => stepOk_yes (j := 11) (t := 61) (b := false) rfl rfl (he.get 11 61 (by kernel_rfl) rfl) (op_move rfl (he.keep (.tmp 9) (by kernel_rfl)))
  · exact fun ac W hL he => stepOk_yes (j := 11) (t := 61) (b := false) rfl rfl (he.get 11 61 (by kernel_rfl) rfl) (op_convert rfl (he.get 12 62 (by kernel_rfl) rfl) (strOf (hrd94.later hL) HBN.out) (Later.refl _) rfl)
  · exact fun ac W hL he => stepOk_yes (j := 11) (t := 61) (b := false) rfl rfl (he.get 11 61 (by kernel_rfl) rfl) (op_move rfl (he.keep (.tmp 12) (by kernel_rfl)))
  · exact fun ac W hL he => stepOk_yes (j := 11) (t := 61) (b := false) rfl rfl (he.get 11 61 (by kernel_rfl) rfl) (op_convert rfl (he.get 14 64 (by kernel_rfl) rfl) (strOf (hrd124.later hL) HBN.out) (Later.refl _) rfl)
  · exact fun ac W hL he => stepOk_yes (j := 11) (t := 61) (b := false) rfl rfl (he.get 11 61 (by kernel_rfl) rfl) (op_binOp rfl (he.get 13 63 (by kernel_rfl) rfl) (he.get 15 65 (by kernel_rfl) rfl) eqgS (neqS_self _ _) rfl)
  · exact fun ac W hL he => stepOk_want rfl (op_pick (b := false) rfl (he.get 11 61 (by kernel_rfl) rfl) (he.get 16 66 (by kernel_rfl) rfl))
  · exact fun ac W hL he => stepOk_want rfl (op_move rfl (he.get 17 67 (by kernel_rfl) rfl))
  · exact fun ac W hL he => stepOk_yes (j := 18) (t := 68) (b := false) rfl rfl (he.get 18 68 (by kernel_rfl) rfl) (op_move rfl (he.keep (.tmp 10) (by kernel_rfl)))
  · exact fun ac W hL he => stepOk_yes (j := 18) (t := 68) (b := false) rfl rfl (he.get 18 68 (by kernel_rfl) rfl) (op_move rfl (he.keep (.tmp 13) (by kernel_rfl)))
  · exact fun ac W hL he => stepOk_yes (j := 18) (t := 68) (b := false) rfl rfl (he.get 18 68 (by kernel_rfl) rfl) (op_binOp rfl (he.get 19 69 (by kernel_rfl) rfl) (he.get 20 70 (by kernel_rfl) rfl) eqgI (neqI_me _ _ _) rfl)
  · exact fun ac W hL he => stepOk_want rfl (op_pick (b := false) rfl (he.get 18 68 (by kernel_rfl) rfl) (he.get 21 71 (by kernel_rfl) rfl))
  · exact fun ac W hL he => stepOk_want rfl (op_move rfl (he.get 22 72 (by kernel_rfl) rfl))
  · exact fun ac W hL he => stepOk_yes (j := 23) (t := 73) (b := false) rfl rfl (he.get 23 73 (by kernel_rfl) rfl) (op_move rfl (he.keep (.tmp 11) (by kernel_rfl)))
  · intro ac W hL he; refine stepOk_yes (j := 23) (t := 73) (b := false) rfl rfl (he.get 23 73 (by kernel_rfl) rfl) ?_; have e0 : ac.eval (.tmp 74) = .int .i64 er := (he.get 24 74 (by kernel_rfl) rfl); exact op_callF (vs := #[.int .i64 er]) rfl (by simp only [List.map_toArray, List.map_cons, List.map_nil, e0]) (enters_of Try.func13 (by kernel_rfl) rfl) ((numE_any er W).mono fun e W' ⟨he', hw'⟩ => ⟨_, he', hw' ▸ Later.refl _, rfl⟩)
  · exact fun ac W hL he => stepOk_yes (j := 23) (t := 73) (b := false) rfl rfl (he.get 23 73 (by kernel_rfl) rfl) (op_move rfl (he.keep (.tmp 14) (by kernel_rfl)))
  · exact fun ac W hL he => stepOk_yes (j := 23) (t := 73) (b := false) rfl rfl (he.get 23 73 (by kernel_rfl) rfl) (op_binOp rfl (he.get 25 75 (by kernel_rfl) rfl) (he.get 26 76 (by kernel_rfl) rfl) eqgI (neqI_me _ _ _) rfl)
  · exact fun ac W hL he => stepOk_want rfl (op_pick (b := false) rfl (he.get 23 73 (by kernel_rfl) rfl) (he.get 27 77 (by kernel_rfl) rfl))
  intro zz w5 hL hzz
  have e78 : zz 28 = .bool false := hzz 28 (by decide)
  have hL15 := hL14.step hL
  clear hzz hL hL14 hrd74 hrd94 hrd124 HRF
  simp only [putL, Nat.reduceAdd, Act.put, List.setIfInBounds_toArray, List.set_cons_succ, List.set_cons_zero]
  rw [e78]
  clear e78
  have hr25 := (hr2.later hL1).later hL15
  have hr25a := hr25.later ((Later.refl w5).alloc (.cells #[] 5))
  go_upto_region 9 with (first
    | (at_builtin; refine wpList_append_bytes rfl (.tmp 79) (.tmp 80) 22 rfl w5.heap.size 5 Try.underlying22 byteInfo _ [] rfl (own_empty w5 5 w5.heap.size (Nat.le_refl _)) A2 n2 c2 s rfl HN2.out hr25a (by simp; omega) (by simp) ?_; intro v6 w6 hown6 hg6 hat6; rw [List.nil_append] at hown6; obtain ⟨A6, c6, e6, hc6, hcm6, hrd6⟩ := hown6.slice; rw [HN2.out] at e6 hc6; subst e6)
    | fail)
  have hL56 : Later w5 w6 := ((Later.refl w5).alloc (.cells #[] 5)).grown hg6 (by simp) (fun j e => by cases e; exact Nat.le_refl _)
  have hat6' := fun k e => hown6.at_ k e
  have hx6 := hown6.xrow
  rw [HN2.out] at hx6
  have hfr := wFrames_any A6 n2 c6 s w6 HN2.out (by omega) hrd6
  have hL16 := hL15.step hL56
  have hs15 := hL15.size
  clear hg6 hat6 hown6 hrd6 hr25 hr25a hL15
  go_upto_region 10 with (first
    | (go_at_call 33; refine hfr.mono ?_; clear hfr; rintro e w7 ⟨gf, gd, A7', c7', rfl, kf7, hrd7, hc7, hcm7, hgb7, hgf7, hgd7, hgdl7, hL67⟩)
    | fail)
  have hx7 := hx6.below hL67
  have hL17 := hL16.step hL67
  have hs67 := hL67.size
  have hs56 := hL56.size
  have hkf7 := kf7.lt
  have hs16 := hL16.size
  clear hx6 hL67 hL16 hL56
  go_wp2_with fail
  go_loopw [17] (fun t wr => ∃ j : Nat, j ≤ n2 ∧ t = .int .i64 j ∧ XRow 5 wr w5.heap.size (.slice A6 n2 c6) n2 ∧ Same (fun k => k < w7.heap.size ∧ some k ≠ (Value.slice A6 n2 c6).ownBlock) w7 wr) (fun t _ => n2 - (intOf t).toNat)
  case atStart => exact ⟨0, by omega, rfl, hx7, Same.refl _ _⟩
  case round =>
    clear hx7
    obtain ⟨j, hj, rfl, hx, hsr⟩ := hrel
    by_cases hlt9 : j < n2
    · have hd : decide ((j : Int) < (n2 : Int)) = true := decide_eq_true (by omega)
      have hd' : decide (j < n2) = true := decide_eq_true hlt9
      rcases hx with hx | ⟨g4, cap4, cs, e4, hg4, hrow4, hsz4, hcs4⟩
      · omega
      · injection e4 with e4 _ e5
        subst e4
        obtain ⟨y, hy⟩ := hcs4 j hlt9
        have hc4 : wr.cell? ⟨g4, j, none⟩ = some (.int .u8 (y.toNat : Int)) := (hrow4.cell j).trans hy
        have hf4 := hrow4.frozen j
        have hy8 := y.toNat_lt
        have HCS := Lib.hid hcs4
        clear hy hcs4
        go_wp2_with fail
        go_roundw
        case rel =>
          refine ⟨j + 1, by omega, by go_num, .inr ⟨g4, cap4, _, by rw [e5], hg4, hrow4.set j _, by simpa using hsz4, ?_⟩, hsr.trans ((Same.set wr ⟨g4, j, none⟩ _).mono fun k hk e => hk.2 (congrArg some e))⟩
          intro k hk
          by_cases e : j = k
          · subst e
            refine ⟨UInt8.ofNat (y.toNat + 1), ?_⟩
            rw [Array.getElem?_setIfInBounds_self, if_pos (by omega), byteV, UInt8.toNat_ofNat']
            congr 2
          · rw [Array.getElem?_setIfInBounds_ne e]
            exact HCS.out k hk
        case measure => simp [intOf]; omega
    · obtain rfl : j = n2 := by omega
      have hd : decide ((j : Int) < (j : Int)) = false := decide_eq_false (by omega)
      have hd' : decide (j < j) = false := decide_eq_false (by omega)
      have hL1r : Later w1 wr := ((Same.of_below hL17).trans (hsr.mono fun k (hk : k < w1.heap.size) => ⟨by have := hL17.size; omega, fun e => by have := (hat6' k e.symm).1; have := hs15; omega⟩)).below
      have kf8 := kf7.same hsr ⟨hkf7, fun e => by have := (hat6' gf e.symm).2; omega⟩
      have hrd8 : Rd wr A7' s := hrd7.same hsr fun b o e _ => by
        have hbd := hgb7 _ e
        simp only at hbd
        subst hbd
        exact ⟨hgdl7, fun e2 => by have := (hat6' b e2.symm).2; omega⟩
      have hsr' := hsr.size
      have hrF := refFrames_any A2 j c2 s wr HN2.out hc2 hcm2 (by omega) ((hr2.later hL1).later hL1r)
      clear hx hsr hrd7 kf7 hL17
      go_upto_region 15 with (first
        | (go_at_call 34; refine hrF.mono ?_; clear hrF; rintro e w9 ⟨v18, ds, rfl, hown18, hparts, hgoK, hL89⟩; obtain ⟨A18, c18, e18⟩ := hown18.shape; subst e18)
        | fail)
      obtain ⟨K, hK⟩ : ∃ K, ds.length = K := ⟨_, rfl⟩
      rw [hK] at hown18 hgoK ⊢
      have hat18 := fun k e => (hown18.at_ k e).2
      have k18 := Row.new w9 85 #[.slice A18 K c18]
      have hLa := (Later.refl w9).alloc (.cells #[.slice A18 K c18] 85)
      have hlt18 := k18.lt
      have hs89 := hL89.size
      have hsz10 : (w9.alloc (.cells #[.slice A18 K c18] 85)).heap.size = w9.heap.size + 1 := by simp
      obtain ⟨q18, hq18⟩ : ∃ x, x = w9.heap.size := ⟨_, rfl⟩
      rw [← hq18] at k18 hsz10 hlt18 hs89 hat18 ⊢
      have hLr10 := Later.step hL89 hLa
      have hs1r := hL1r.size
      have tf0 : TF w1 (q18 + 1) q many gf gd A7' j c7' s q18 wr.heap.size A18 K c18 ds A2 (w9.alloc (.cells #[.slice A18 K c18] 85)) :=
        { size := by omega
          k5 := (k5.later hL1r).later hLr10
          k6 := (k6.later hL1r).later hLr10
          kf := kf8.later hLr10
          rd7 := hrd8.later hLr10
          k18 := k18
          own18 := hown18.later hLa
          rd2 := ((hr2.later hL1).later hL1r).later hLr10
          lat := hL1r.step hLr10
          hq := by omega
          hf := by omega
          hg := hgb7
          hgd := by omega
          h18 := by omega
          hown := fun k e => by have := hat18 k e; omega
          h2 := fun b o e hne => by
            obtain ⟨b', o', e', hc'⟩ := hr2 hne
            have e2 := e.symm.trans e'
            injection e2 with e2
            injection e2 with e3 e4
            subst e3
            have h0 := block_lt_of_cell (hc' 0 (List.length_pos_iff.2 hne))
            simp only at h0
            have := hL1.size
            omega
          h1 := by omega }
      have HQ18 := Lib.hid hq18
      clear k5 k6 kf8 hrd8 hLa hlt18 hq18 hLr10 hL1r hL89 hown18 k18 hsz10
      generalize w9.alloc (.cells #[.slice A18 K c18] 85) = w10 at *
      go_wp2_with fail
      have k19 := Row.new w10 3 #[.int .i64 0]
      have hb11 : Below (q18 + 1) w10 (w10.alloc (.cells #[.int .i64 0] 3)) := (Below.refl _ _).alloc tf0.size _
      have tf := tf0.below hb11
      obtain ⟨q19, hq19⟩ : ∃ x, x = w10.heap.size := ⟨_, rfl⟩
      rw [← hq19] at k19 ⊢
      have hq19M : q18 + 1 ≤ q19 := by rw [hq19]; exact tf0.size
      clear hq19 hb11 tf0
      generalize w10.alloc (.cells #[.int .i64 0] 3) = w11 at *
      have HDS := Lib.hid hK
      have HPA := Lib.hid hparts
      have HGK := Lib.hid hgoK
      clear hK hparts hgoK
      refine wp_loop_rounds 3 ?_
      rw [rounds_succ]
      obtain ⟨m1, hm1⟩ : ∃ m, (if 1 < many then many else 1) = m := ⟨_, rfl⟩
      obtain ⟨Z, hz⟩ : ∃ Z : Nat, (if m1 < (K : Int) then m1 else (K : Int)) = (Z : Int) := ⟨(if m1 < (K : Int) then m1 else (K : Int)).toNat, by split at hm1 <;> split <;> omega⟩
      have hzd : (K = 0 ∨ (K : Int) < many) → Z = K := by intro h; split at hm1 <;> split at hz <;> omega
      have hze : ∀ k, k + 1 ≤ K → (k = 0 ∨ (k : Int) < many) → many ≤ (k : Int) + 1 → k + 1 = Z := by intro k h1 h2 h3; split at hm1 <;> split at hz <;> omega
      have HZD := Lib.hid hzd
      have HZE := Lib.hid hze
      have HM1 := Lib.hid hm1
      have HZ := Lib.hid hz
      clear hzd hze hm1 hz
      have c19 : w11.cell? ⟨q19, 0, none⟩ = some (.int .i64 0) := (k19.cell 0).trans rfl
      have hnil := fun X => eqlFuncNil (W := X) (.func 65) #[] #[.pointer (some ⟨gf, 0, none⟩)]
      have hq19l := k19.lt
      go_wp2_with fail
      have k20 := Row.new w11 3 #[.int .i64 0]
      have hbA : Below (q18 + 1) w11 (w11.alloc (.cells #[.int .i64 0] 3)) := (Below.refl _ _).alloc tf.size _
      have tfA := tf.below hbA
      have k19A := k19.alloc (.cells #[.int .i64 0] 3)
      have hszA : (w11.alloc (.cells #[.int .i64 0] 3)).heap.size = w11.heap.size + 1 := by simp
      obtain ⟨q20, hq20⟩ : ∃ x, x = w11.heap.size := ⟨_, rfl⟩
      rw [← hq20] at k20 hszA hq19l ⊢
      generalize w11.alloc (.cells #[.int .i64 0] 3) = WA at *
      have hlt20 := k20.lt
      clear tf k19 hbA hq20 c19 hnil
      have hseq := frames1_seq s gf gd A7' j c7' WA 9 (by omega) (fun b => b = q20 ∨ b = WA.heap.size + 1) (by rintro b (h | h) <;> omega) (by have := tfA.hf; rintro (h | h) <;> omega) (by have := tfA.hgd; rintro (h | h) <;> omega) HN2.out hc7 (by unfold maxLen at hcm7; omega) tfA.rd7 tfA.hg tfA.kf (by have := tfA.hgd; omega)
      have HS := Lib.hid hseq
      have HSZ := Lib.hid hszA
      clear hseq hszA
      refine name_frame fun T0 hT0 => ?_
      rename_i K0 hK0
      have hrest : ∀ (D : Nat) (X : World), WA.heap.size ≤ D → X.heap[D]? = some (.deferred (some [])) → Row X q20 3 #[.int .i64 (Z : Int)] → Same (fun k => k < WA.heap.size ∧ k ≠ q20) WA X → K0 { tmps := T0, defers := { target := .collected D, args := #[] } :: [] } X := by
        intro D1 X1 hD1 hKD1 kn hs
        refine hK0 _ _ ?_
        rw [hT0]
        clear hT0 HS hK0
        have hbX : Below (q18 + 1) WA X1 := Same.below (hs.mono fun k (hk : k < q18 + 1) => ⟨by have := tfA.size; omega, by omega⟩)
        have tfX := tfA.below hbX
        have k19X := k19A.same hs ⟨by omega, by omega⟩
        have c19 : X1.cell? ⟨q19, 0, none⟩ = some (.int .i64 0) := (k19X.cell 0).trans rfl
        have c20 : X1.cell? ⟨q20, 0, none⟩ = some (.int .i64 (Z : Int)) := (kn.cell 0).trans rfl
        have c18 : X1.cell? ⟨q18, 0, none⟩ = some (.slice A18 K c18) := (tfX.k18.cell 0).trans rfl
        have c5 : X1.cell? ⟨q, 0, none⟩ = some (.int .i64 many) := (tfX.k5.cell 0).trans rfl
        have hm1 := HM1.out
        have hz := HZ.out
        go_upto_region 34 with fail
        clear hm1 hz
        go_wp2_with fail
        clear c19 c20 c18 c5
        have k19 := Row.new X1 3 #[.int .i64 1]
        have hbB : Below (q18 + 1) X1 (X1.alloc (.cells #[.int .i64 1] 3)) := (Below.refl _ _).alloc tfX.size _
        have tf := tfX.below hbB
        have hKD1 : (X1.alloc (.cells #[.int .i64 1] 3)).heap[D1]? = some (.deferred (some [])) := (Below.heap_alloc _ _ _ (Array.getElem?_eq_some_iff.1 hKD1).1).trans hKD1
        have hq19X : q18 + 1 ≤ X1.heap.size := tfX.size
        have hqD1 : q + 1 < D1 := by have := tfA.hq; have := tfA.size; omega
        clear hs kn k19X tfX hbB hbX k20 k19A tfA hq19M hq19l hD1
        obtain ⟨q19, hq19⟩ : ∃ x, x = X1.heap.size := ⟨_, rfl⟩
        rw [← hq19] at k19 hq19X ⊢
        have hq19M := hq19X
        clear hq19 hq19X
        generalize X1.alloc (.cells #[.int .i64 1] 3) = w12 at *
        rw [rounds_succ]
        have c19 : w12.cell? ⟨q19, 0, none⟩ = some (.int .i64 1) := (k19.cell 0).trans rfl
        have hnil := fun X => eqlFuncNil (W := X) (.func 65) #[] #[.pointer (some ⟨gf, 0, none⟩)]
        have hq19l := k19.lt
        go_wp2_with fail
        have k20 := Row.new w12 3 #[.int .i64 0]
        have hbA : Below (q18 + 1) w12 (w12.alloc (.cells #[.int .i64 0] 3)) := (Below.refl _ _).alloc tf.size _
        have tfA := tf.below hbA
        have k19A := k19.alloc (.cells #[.int .i64 0] 3)
        have hszA : (w12.alloc (.cells #[.int .i64 0] 3)).heap.size = w12.heap.size + 1 := by simp
        obtain ⟨q20, hq20⟩ : ∃ x, x = w12.heap.size := ⟨_, rfl⟩
        rw [← hq20] at k20 hszA hq19l ⊢
        have hD1s : D1 < q20 := by rw [hq20]; exact (Array.getElem?_eq_some_iff.1 hKD1).1
        have hKD1A : (w12.alloc (.cells #[.int .i64 0] 3)).heap[D1]? = some (.deferred (some [])) := (Below.heap_alloc _ _ _ (Array.getElem?_eq_some_iff.1 hKD1).1).trans hKD1
        generalize w12.alloc (.cells #[.int .i64 0] 3) = WA at *
        have hlt20 := k20.lt
        clear tf k19 hbA hq20 c19 hnil
        have hseq := frames1_seq s gf gd A7' j c7' WA 9 (by omega) (fun b => b = q20 ∨ b = WA.heap.size + 1) (by rintro b (h | h) <;> omega) (by have := tfA.hf; rintro (h | h) <;> omega) (by have := tfA.hgd; rintro (h | h) <;> omega) HN2.out hc7 (by unfold maxLen at hcm7; omega) tfA.rd7 tfA.hg tfA.kf (by have := tfA.hgd; omega)
        have HS := Lib.hid hseq
        have HSZ := Lib.hid hszA
        clear hseq hszA
        refine name_frame fun T0 hT0 => ?_
        rename_i K0 hK0
        have hrest : ∀ (D : Nat) (X : World), WA.heap.size ≤ D → X.heap[D]? = some (.deferred (some [])) → Row X q20 3 #[.int .i64 (K : Int)] → Same (fun k => k < WA.heap.size ∧ k ≠ q20) WA X → K0 { tmps := T0, defers := { target := .collected D, args := #[] } :: [{ target := .collected D1, args := #[] }] } X := by
          intro D0 X0 hD0 hKD0 kn hs
          refine hK0 _ _ ?_
          rw [hT0]
          clear hT0 HS hK0
          have hbX : Below (q18 + 1) WA X0 := Same.below (hs.mono fun k (hk : k < q18 + 1) => ⟨by have := tfA.size; omega, by omega⟩)
          have tfX := tfA.below hbX
          have k19X := k19A.same hs ⟨by omega, by omega⟩
          have c19 : X0.cell? ⟨q19, 0, none⟩ = some (.int .i64 1) := (k19X.cell 0).trans rfl
          have c20 : X0.cell? ⟨q20, 0, none⟩ = some (.int .i64 (K : Int)) := (kn.cell 0).trans rfl
          have c18 : X0.cell? ⟨q18, 0, none⟩ = some (.slice A18 K c18) := (tfX.k18.cell 0).trans rfl
          have c5 : X0.cell? ⟨q, 0, none⟩ = some (.int .i64 many) := (tfX.k5.cell 0).trans rfl
          go_upto_region 34 with fail
          go_wp2_with fail
          clear c19 c20 c18 c5
          have hKD1X : X0.heap[D1]? = some (.deferred (some [])) := (hs.block D1 ⟨by omega, by omega⟩).trans hKD1A
          have k19' := Row.new X0 3 #[.int .i64 2]
          have hbB : Below (q18 + 1) X0 (X0.alloc (.cells #[.int .i64 2] 3)) := (Below.refl _ _).alloc tfX.size _
          have tfB := tfX.below hbB
          have hLX : Later X0 (X0.alloc (.cells #[.int .i64 2] 3)) := (Later.refl X0).alloc _
          have hLwX := tfX.lat
          clear hs kn k19X tfX hbB k20 k19A tfA hKD1A
          have c19 : (X0.alloc (.cells #[.int .i64 2] 3)).cell? ⟨X0.heap.size, 0, none⟩ = some (.int .i64 2) := (k19'.cell 0).trans rfl
          rw [rounds_succ]
          generalize X0.alloc (.cells #[.int .i64 2] 3) = w14 at *
          have hwk := wworks_any w14
          have k614 := tfB.k6
          have c614 : w14.cell? ⟨q + 1, 0, none⟩ = some (.bool false) := (k614.cell 0).trans rfl
          have hqM := tfB.hq
          have hwM := tfB.h1
          clear tfB
          go_wp2_with (first
            | (go_at_call 9; refine hwk.mono ?_; clear hwk; rintro e w15 ⟨rfl, hL15⟩; have k615 := k614.later hL15; have c615 : w15.cell? ⟨q + 1, 0, none⟩ = some (.bool false) := (k615.cell 0).trans rfl; have f615 : w15.frozen? ⟨q + 1, 0, none⟩ = false := k615.frozen 0)
            | fail)
          have hwX : Below w.heap.size w X0 := (hL1.step hLwX)
          have hfin := leaveX2 (q := q) hKD0 hKD1X hwX k615 (hLX.step hL15) (by omega) (by omega) (by have := HQ.out; omega)
          exact leaveM2 (by omega) hfin.1 hfin.2.1 (by simp [results, Try.results7, go_sem, hfin.2.2.1]) (HΦ.out _ _ ⟨rfl, hfin.2.2.2⟩)
        refine (wpIn_wide (n := 10)).1 ?_
        refine wpIn_range_W (α := Fr) (Kp := KeepW (fun b => b = q20 ∨ b = WA.heap.size + 1)) rfl (by omega) (gf := 65) (lb := #[.pointer (some ⟨gf, 0, none⟩)]) (by rw [hT0]; rfl) trivial (enters_of Try.func65 (by kernel_rfl) rfl)
          HS.out (fun r h => h.elim) (fun h k => h.trans k) (fun x W o => KeepW.put W o (.inr rfl)) (Below.refl _ _) (fun _ => rfl)
          (fun pre X => pre.length ≤ K ∧ True ∧ Row X q20 3 #[.int .i64 (pre.length : Int)] ∧ Same (fun k => k < WA.heap.size ∧ k ≠ q20) WA X)
          (fun c pre X => False)
          (fun pre X Y ⟨h1, h2, h3, h4⟩ hs => ⟨h1, h2, h3.same hs ⟨by omega, fun h => h⟩, h4.trans (hs.mono fun k hk => ⟨hk.1, fun h => h⟩)⟩)
          (fun c pre X Y h _ => h)
          ⟨by simp, trivial, k20, Same.refl _ _⟩
          (fun pre x a' X => a' = { tmps := ((((T0.setIfInBounds 105 (.int .i64 x.at_)).setIfInBounds 106 (.slice x.A x.body.length x.c)).setIfInBounds 21 (.int .i64 x.at_)).setIfInBounds 22 (.slice x.A x.body.length x.c)), defers := [] } ∧ FrOk true (WA.heap.size + 2) s pre x X)
          (fun pre x a' X o ⟨h1, h2, h3, h4, h5, h6, h7⟩ => ⟨h1, h2, h3, h4, h5.keep (fun b _ e => World.putObj_heap_other (by intro e2; subst e2; have := (h5.at_ _ e).1; omega)), h6, by simpa [World.putObj] using h7⟩) ?assign ?body ?done ?stop
        case assign =>
          intro l0 pre x X K hXs hi hok hK
          have HK := Lib.hid hK
          have HI := Lib.hid hi
          have HOK := Lib.hid hok
          clear hK hi hok
          have e89 : ((#[105, 106] : Array Tmp).zip (frE x)).foldl (fun t (p, v) => t.setIfInBounds p v) T0 = (T0.setIfInBounds 105 (.int .i64 x.at_)).setIfInBounds 106 (.slice x.A x.body.length x.c) := by simp
          rw [e89, hT0]
          clear e89
          simp only [List.setIfInBounds_toArray, List.set_cons_succ, List.set_cons_zero]
          gi_wp2
          exact HK.out _ _ (KeepsFrom.refl _ _) (KeepW.refl _ _ _) HI.out ⟨by rw [hT0]; rfl, HOK.out⟩
        case body =>
          rintro l0 pre x a' X hl hlo hXs ⟨h1, hcond, h3, h4⟩ ⟨rfl, hok⟩
          have hcells := fun b o e => hok.cells (b := b) (o := o) e
          obtain ⟨g1, g2, g3, hown, g5, g6⟩ := hok
          rw [if_pos rfl] at g3
          have hplen : (pre ++ [x]).length = pre.length + 1 := by simp
          obtain ⟨k, hk⟩ : ∃ k, pre.length = k := ⟨_, rfl⟩
          rw [hk] at h1 h3 g1 g2 g3 hplen
          have hki : k < K := by
            by_cases e : k = K
            · rw [e, HGK.out] at g1; cases g1
            · omega
          have hkd : k < ds.length := by rw [HDS.out]; exact hki
          obtain ⟨p1, p2, p3⟩ := HPA.out.2 k hkd
          have hup : x.at_ = ds[k].at_ := g3.trans p1.symm
          have hbd : x.body = ds[k].body := g2.trans p2.symm
          have hbX : Below (q18 + 1) WA X := Same.below (h4.mono fun k (hk : k < q18 + 1) => ⟨by have := tfA.size; omega, by omega⟩)
          have tfX := tfA.below hbX
          obtain ⟨bi, rfl, _, hbi, hc0, hc1⟩ := tfX.own18.get k hkd
          have hrdp := p3 X tfX.rd2
          obtain ⟨d, hd⟩ : ∃ d, ds[k] = d := ⟨_, rfl⟩
          rw [hd] at hup hbd hc0 hc1 hrdp
          obtain ⟨xat, xA, xc, xb, xbase⟩ := x
          obtain ⟨dat, dA, dc, db⟩ := d
          simp only at hup hbd hc0 hc1 hrdp hown g2 g5 g6 hcells
          subst hup
          subst hbd
          have hx := hown.xrow
          obtain ⟨xA', xc', exA, hxc, hxcm, hrdx⟩ := hown.slice
          have hrdx' : Rd X xA xb := by
            injection exA with e1
            rw [e1]
            exact hrdx
          obtain ⟨xn, hxn⟩ : ∃ n, xb.length = n := ⟨_, rfl⟩
          rw [hxn] at hc1 hx
          have HXN := Lib.hid hxn
          have k19X := k19A.same h4 ⟨by omega, by omega⟩
          have hxs : xn < 9223372036854775807 := by
            have h := Wr.split_bounds (Wr.rest k s)
            have h2 := Wr.rest_len k s
            have h3 : xb = (Wr.splitR (Wr.rest k s)).1 := g2
            rw [← h3] at h
            have := HN2.out
            omega
          rw [hT0]
          simp only [List.setIfInBounds_toArray, List.set_cons_succ, List.set_cons_zero, hxn]
          have HREST := Lib.hid hrest
          have HPL := Lib.hid hplen
          have HCELLS := Lib.hid hcells
          clear hxn hplen hown exA hxc hxcm hrdx g1 g2 g3 p1 p2 p3 hd hT0 hrest hK0 HS hcells hbX
          have hk9 : (k : Int) + 1 ≤ 9223372036854775807 := by
            have := HN2.out
            have u1 := Wr.upto_ge s k (fun i hi => HPA.out.1 i (by omega))
            have u2 := Wr.upto_le s k (fun i hi => HPA.out.1 i (by omega))
            omega
          gi_wp2_with fail
          have WR0 := wide_round l0
          refine wpIn_region_vals WR0 [Pr.eq (.int .i64 (k : Int)), Pr.eq (.slice (some ⟨bi, 0, none⟩) K c18), Pr.eq (.int .i64 (K : Int)), Pr.eq (.bool false), Pr.eq (.bool false), Pr.eq (.int .i64 xat), Pr.eq (.slice (some ⟨bi, 0, none⟩) K c18), Pr.eq (.int .i64 (k : Int)), Pr.eq (.pointer (some ⟨bi, k * 2, none⟩)), Pr.eq (.pointer (some ⟨bi, k * 2, none⟩)), Pr.eq (.int .i64 xat), Pr.eq (.bool false), Pr.eq (.bool false), Pr.eq (.bool false), Pr.eq (.slice xA xn xc), Pr.eq (.string ⟨xb.toArray⟩), Pr.eq (.slice (some ⟨bi, 0, none⟩) K c18), Pr.eq (.int .i64 (k : Int)), Pr.eq (.pointer (some ⟨bi, k * 2, none⟩)), Pr.eq (.pointer (some ⟨bi, k * 2 + 1, none⟩)), Pr.eq (.slice dA xn dc), Pr.eq (.string ⟨xb.toArray⟩), Pr.eq (.bool false), Pr.eq (.bool false)] (by kernel_rfl) (by kernel_rfl) (by kernel_rfl) (by kernel_rfl) (by kernel_rfl) ⟨?_, ?_, ?_, ?_, ?_, ?_, ?_, ?_, ?_, ?_, ?_, ?_, ?_, ?_, ?_, ?_, ?_, ?_, ?_, ?_, ?_, ?_, ?_, ?_, trivial⟩ ?_
          · exact fun ac W hL he => stepOk_want rfl (op_load rfl (he.keep (.tmp 20) (by kernel_rfl)) (loadInt ((h3.later hL).cell 0 |>.trans rfl)) rfl)
          · exact fun ac W hL he => stepOk_want rfl (op_load rfl (he.keep (.tmp 18) (by kernel_rfl)) (loadParts ((tfX.k18.later hL).cell 0 |>.trans rfl)) rfl)
          · exact fun ac W hL he => stepOk_want rfl (op_len Try.underlying85 rfl (he.get 1 108 (by kernel_rfl) rfl) rfl)
          · exact fun ac W hL he => stepOk_want rfl (op_binOp rfl (he.get 0 107 (by kernel_rfl) rfl) (he.get 2 109 (by kernel_rfl) rfl) rfl (geqI (by omega)) rfl)
          · exact fun ac W hL he => stepOk_want rfl (op_move rfl (he.get 3 110 (by kernel_rfl) rfl))
          · exact fun ac W hL he => stepOk_yes (j := 4) (t := 111) (b := false) rfl rfl (he.get 4 111 (by kernel_rfl) rfl) (op_move rfl (he.keep (.tmp 21) (by kernel_rfl)))
          · exact fun ac W hL he => stepOk_yes (j := 4) (t := 111) (b := false) rfl rfl (he.get 4 111 (by kernel_rfl) rfl) (op_load rfl (he.keep (.tmp 18) (by kernel_rfl)) (loadParts ((tfX.k18.later hL).cell 0 |>.trans rfl)) rfl)
          · exact fun ac W hL he => stepOk_yes (j := 4) (t := 111) (b := false) rfl rfl (he.get 4 111 (by kernel_rfl) rfl) (op_load rfl (he.keep (.tmp 20) (by kernel_rfl)) (loadInt ((h3.later hL).cell 0 |>.trans rfl)) rfl)
          · exact fun ac W hL he => stepOk_yes (j := 4) (t := 111) (b := false) rfl rfl (he.get 4 111 (by kernel_rfl) rfl) (op_idx rfl (he.get 6 113 (by kernel_rfl) rfl) (he.get 7 114 (by kernel_rfl) rfl) (idxParts W hki) rfl)
          · exact fun ac W hL he => stepOk_yes (j := 4) (t := 111) (b := false) rfl rfl (he.get 4 111 (by kernel_rfl) rfl) (op_fieldAddr rfl (he.get 8 115 (by kernel_rfl) rfl) (fieldPart0 W) rfl)
          · exact fun ac W hL he => stepOk_yes (j := 4) (t := 111) (b := false) rfl rfl (he.get 4 111 (by kernel_rfl) rfl) (op_load rfl (he.get 9 116 (by kernel_rfl) rfl) (loadInt (hL.cell hc0)) rfl)
          · exact fun ac W hL he => stepOk_yes (j := 4) (t := 111) (b := false) rfl rfl (he.get 4 111 (by kernel_rfl) rfl) (op_binOp rfl (he.get 5 112 (by kernel_rfl) rfl) (he.get 10 117 (by kernel_rfl) rfl) eqgI (neqI_me _ _ _) rfl)
          · exact fun ac W hL he => stepOk_want rfl (op_pick (b := false) rfl (he.get 4 111 (by kernel_rfl) rfl) (he.get 11 118 (by kernel_rfl) rfl))
          · exact fun ac W hL he => stepOk_want rfl (op_move rfl (he.get 12 119 (by kernel_rfl) rfl))
          · exact fun ac W hL he => stepOk_yes (j := 13) (t := 120) (b := false) rfl rfl (he.get 13 120 (by kernel_rfl) rfl) (op_move rfl (he.keep (.tmp 22) (by kernel_rfl)))
          · exact fun ac W hL he => stepOk_yes (j := 13) (t := 120) (b := false) rfl rfl (he.get 13 120 (by kernel_rfl) rfl) (op_convert rfl (he.get 14 121 (by kernel_rfl) rfl) (strOf (hrdx'.later hL) HXN.out) (Later.refl _) rfl)
          · exact fun ac W hL he => stepOk_yes (j := 13) (t := 120) (b := false) rfl rfl (he.get 13 120 (by kernel_rfl) rfl) (op_load rfl (he.keep (.tmp 18) (by kernel_rfl)) (loadParts ((tfX.k18.later hL).cell 0 |>.trans rfl)) rfl)
          · exact fun ac W hL he => stepOk_yes (j := 13) (t := 120) (b := false) rfl rfl (he.get 13 120 (by kernel_rfl) rfl) (op_load rfl (he.keep (.tmp 20) (by kernel_rfl)) (loadInt ((h3.later hL).cell 0 |>.trans rfl)) rfl)
          · exact fun ac W hL he => stepOk_yes (j := 13) (t := 120) (b := false) rfl rfl (he.get 13 120 (by kernel_rfl) rfl) (op_idx rfl (he.get 16 123 (by kernel_rfl) rfl) (he.get 17 124 (by kernel_rfl) rfl) (idxParts W hki) rfl)
          · exact fun ac W hL he => stepOk_yes (j := 13) (t := 120) (b := false) rfl rfl (he.get 13 120 (by kernel_rfl) rfl) (op_fieldAddr rfl (he.get 18 125 (by kernel_rfl) rfl) (fieldPart1 W) rfl)
          · exact fun ac W hL he => stepOk_yes (j := 13) (t := 120) (b := false) rfl rfl (he.get 13 120 (by kernel_rfl) rfl) (op_load rfl (he.get 19 126 (by kernel_rfl) rfl) (loadSl (hL.cell hc1)) rfl)
          · exact fun ac W hL he => stepOk_yes (j := 13) (t := 120) (b := false) rfl rfl (he.get 13 120 (by kernel_rfl) rfl) (op_convert rfl (he.get 20 127 (by kernel_rfl) rfl) (strOf (hrdp.later hL) HXN.out) (Later.refl _) rfl)
          · exact fun ac W hL he => stepOk_yes (j := 13) (t := 120) (b := false) rfl rfl (he.get 13 120 (by kernel_rfl) rfl) (op_binOp rfl (he.get 15 122 (by kernel_rfl) rfl) (he.get 21 128 (by kernel_rfl) rfl) eqgS (neqS_self _ _) rfl)
          · exact fun ac W hL he => stepOk_want rfl (op_pick (b := false) rfl (he.get 13 120 (by kernel_rfl) rfl) (he.get 22 129 (by kernel_rfl) rfl))
          intro zz Wz hL hzz
          have e130 : zz 23 = .bool false := hzz 23 (by decide)
          have hxz := hx.below hL
          have tfz := tfX.below (hL.mono tfX.size)
          have k20z := h3.later hL
          have k19z := k19X.later hL
          have hszX := h4.size
          have hszz := hL.size
          clear hzz tfX h3 k19X hx hc0 hc1 hrdp hrdx'
          simp only [putL, Nat.reduceAdd, Act.put, List.setIfInBounds_toArray, List.set_cons_succ, List.set_cons_zero]
          rw [e130]
          clear e130
          gi_wp2_with fail
          gi_loopw [23] (fun t wr => ∃ j : Nat, j ≤ xn ∧ t = .int .i64 (j : Int) ∧ XRow 5 wr xbase (.slice xA xn xc) xn ∧ KeepW (fun b => b = q20) ⟨xat, xA, xc, xb, xbase⟩ Wz wr ∧ Below WA.heap.size Wz wr) (fun t _ => xn - (intOf t).toNat)
          case atStart => exact ⟨0, by omega, rfl, hxz, KeepW.refl _ _ _, Below.refl _ _⟩
          case round =>
            clear hxz
            obtain ⟨jj, hj, rfl, hx, hkw, hbw⟩ := hrel
            by_cases hltj : jj < xn
            · have hd : decide ((jj : Int) < (xn : Int)) = true := decide_eq_true (by omega)
              have hd' : decide (jj < xn) = true := decide_eq_true hltj
              rcases hx with hx | ⟨g4, cap4, cs, e4, hg4, hrow4, hsz4, hcs4⟩
              · omega
              · injection e4 with e4 _ e5
                subst e4
                obtain ⟨y, hy⟩ := hcs4 jj hltj
                have hc4 : wr.cell? ⟨g4, jj, none⟩ = some (.int .u8 (y.toNat : Int)) := (hrow4.cell jj).trans hy
                have hf4 := hrow4.frozen jj
                have hy8 := y.toNat_lt
                have HCS := Lib.hid hcs4
                clear hy hcs4
                gi_wp2_with fail
                go_roundw
                case rel =>
                  refine ⟨jj + 1, by omega, by go_num, .inr ⟨g4, cap4, _, by rw [e5], hg4, hrow4.set jj _, by simpa using hsz4, ?_⟩, hkw.trans (KeepW.elem wr rfl jj _), hbw.setCell (p := ⟨g4, jj, none⟩) (by show WA.heap.size ≤ g4; omega) _⟩
                  intro k hk
                  by_cases e : jj = k
                  · subst e
                    refine ⟨UInt8.ofNat (y.toNat + 1), ?_⟩
                    rw [Array.getElem?_setIfInBounds_self, if_pos (by omega), byteV, UInt8.toNat_ofNat']
                    congr 2
                  · rw [Array.getElem?_setIfInBounds_ne e]
                    exact HCS.out k hk
                case measure => simp [intOf]; omega
            · obtain rfl : jj = xn := by omega
              have hd : decide ((jj : Int) < (jj : Int)) = false := decide_eq_false (by omega)
              have hd' : decide (jj < jj) = false := decide_eq_false (by omega)
              have k20r := k20z.upto hbw hlt20
              have k19r := k19z.upto hbw (by omega)
              have tfr := tfz.below (hbw.mono (by omega))
              have hqM := tfr.hq
              have c20 : wr.cell? ⟨q20, 0, none⟩ = some (.int .i64 (k : Int)) := (k20r.cell 0).trans rfl
              have f20 : wr.frozen? ⟨q20, 0, none⟩ = false := k20r.frozen 0
              have hset := k20r.set 0 (.int .i64 ((k : Int) + 1))
              have k19s := k19r.far (p := ⟨q20, 0, none⟩) (by show q19 ≠ q20; omega) (.int .i64 ((k : Int) + 1))
              have k5s := tfr.k5.far (p := ⟨q20, 0, none⟩) (by show q ≠ q20; omega) (.int .i64 ((k : Int) + 1))
              have c20s : (wr.setCell ⟨q20, 0, none⟩ (.int .i64 ((k : Int) + 1))).cell? ⟨q20, 0, none⟩ = some (.int .i64 ((k : Int) + 1)) := (hset.cell 0).trans rfl
              have c19s : (wr.setCell ⟨q20, 0, none⟩ (.int .i64 ((k : Int) + 1))).cell? ⟨q19, 0, none⟩ = some (.int .i64 1) := (k19s.cell 0).trans rfl
              have c5s : (wr.setCell ⟨q20, 0, none⟩ (.int .i64 ((k : Int) + 1))).cell? ⟨q, 0, none⟩ = some (.int .i64 many) := (k5s.cell 0).trans rfl
              have hwr1 : IntKind.i64.wrap ((k : Int) + 1) = (k : Int) + 1 := IntWalk.i64_in _ (by omega)
              have hkwX : KeepW (fun b => b = q20) ⟨xat, xA, xc, xb, xbase⟩ X (wr.setCell ⟨q20, 0, none⟩ (.int .i64 ((k : Int) + 1))) := (KeepW.of_later hL).trans (hkw.trans (KeepW.set wr ⟨q20, 0, none⟩ _ rfl))
              have hkf : KeepsFrom WA.heap.size X (wr.setCell ⟨q20, 0, none⟩ (.int .i64 ((k : Int) + 1))) := hkwX.from (fun b h => by omega) (fun b o e => HCELLS.out b o e)
              have hkw2 : KeepW (fun b => b = q20 ∨ b = WA.heap.size + 1) ⟨xat, xA, xc, xb, xbase⟩ X (wr.setCell ⟨q20, 0, none⟩ (.int .i64 ((k : Int) + 1))) := hkwX.mono (fun b h => .inl h) rfl
              have hsame : Same (fun k => k < WA.heap.size ∧ k ≠ q20) WA (wr.setCell ⟨q20, 0, none⟩ (.int .i64 ((k : Int) + 1))) := ((h4.trans ((Same.of_below hL).mono fun k hk => by have := hk.1; omega)).trans ((Same.of_below hbw).mono fun k hk => hk.1)).trans ((Same.set wr ⟨q20, 0, none⟩ _).mono fun k hk => hk.2)
              clear k20r k19r tfr k19s k5s hkwX hbw hkw hx h4 hL tfz k20z k19z
              gi_wp2_with fail
              exact ⟨hkf, hkw2, by rw [HPL.out]; exact hki, trivial, by rw [HPL.out]; exact hset, hsame⟩
        case done =>
          rintro D0 ys X hD hS ⟨h1, h2, h3, h4⟩ hK
          have hyK : ys.length = K := by
            by_cases e : ys.length = K
            · exact e
            · have hg := HPA.out.1 ys.length (by rw [HDS.out]; omega)
              rw [hS.1] at hg
              cases hg
          rw [hyK] at h3
          exact hrest D0 X hD hK h3 h4
        case stop =>
          exact fun _ _ _ _ _ _ h _ => h.elim
      refine (wpIn_wide (n := 10)).1 ?_
      refine wpIn_range_W (α := Fr) (Kp := KeepW (fun b => b = q20 ∨ b = WA.heap.size + 1)) rfl (by omega) (gf := 65) (lb := #[.pointer (some ⟨gf, 0, none⟩)]) (by rw [hT0]; rfl) trivial (enters_of Try.func65 (by kernel_rfl) rfl)
        HS.out (fun r h => h.elim) (fun h k => h.trans k) (fun x W o => KeepW.put W o (.inr rfl)) (Below.refl _ _) (fun _ => rfl)
        (fun pre X => pre.length ≤ K ∧ (pre.length = 0 ∨ (pre.length : Int) < many) ∧ Row X q20 3 #[.int .i64 (pre.length : Int)] ∧ Same (fun k => k < WA.heap.size ∧ k ≠ q20) WA X)
        (fun c pre X => c = Code.exit 4 ∧ pre.length = Z ∧ Row X q20 3 #[.int .i64 (pre.length : Int)] ∧ Same (fun k => k < WA.heap.size ∧ k ≠ q20) WA X)
        (fun pre X Y ⟨h1, h2, h3, h4⟩ hs => ⟨h1, h2, h3.same hs ⟨by omega, fun h => h⟩, h4.trans (hs.mono fun k hk => ⟨hk.1, fun h => h⟩)⟩)
        (fun c pre X Y ⟨h1, h2, h3, h4⟩ hs => ⟨h1, h2, h3.same hs ⟨by omega, fun h => h⟩, h4.trans (hs.mono fun k hk => ⟨hk.1, fun h => h⟩)⟩)
        ⟨by simp, .inl rfl, k20, Same.refl _ _⟩
        (fun pre x a' X => a' = { tmps := ((((T0.setIfInBounds 105 (.int .i64 x.at_)).setIfInBounds 106 (.slice x.A x.body.length x.c)).setIfInBounds 21 (.int .i64 x.at_)).setIfInBounds 22 (.slice x.A x.body.length x.c)), defers := [] } ∧ FrOk true (WA.heap.size + 2) s pre x X)
        (fun pre x a' X o ⟨h1, h2, h3, h4, h5, h6, h7⟩ => ⟨h1, h2, h3, h4, h5.keep (fun b _ e => World.putObj_heap_other (by intro e2; subst e2; have := (h5.at_ _ e).1; omega)), h6, by simpa [World.putObj] using h7⟩) ?assign ?body ?done ?stop
      case assign =>
        intro l0 pre x X K hXs hi hok hK
        have HK := Lib.hid hK
        have HI := Lib.hid hi
        have HOK := Lib.hid hok
        clear hK hi hok
        have e89 : ((#[105, 106] : Array Tmp).zip (frE x)).foldl (fun t (p, v) => t.setIfInBounds p v) T0 = (T0.setIfInBounds 105 (.int .i64 x.at_)).setIfInBounds 106 (.slice x.A x.body.length x.c) := by simp
        rw [e89, hT0]
        clear e89
        simp only [List.setIfInBounds_toArray, List.set_cons_succ, List.set_cons_zero]
        gi_wp2
        exact HK.out _ _ (KeepsFrom.refl _ _) (KeepW.refl _ _ _) HI.out ⟨by rw [hT0]; rfl, HOK.out⟩
      case body =>
        rintro l0 pre x a' X hl hlo hXs ⟨h1, hcond, h3, h4⟩ ⟨rfl, hok⟩
        have hcells := fun b o e => hok.cells (b := b) (o := o) e
        obtain ⟨g1, g2, g3, hown, g5, g6⟩ := hok
        rw [if_pos rfl] at g3
        have hplen : (pre ++ [x]).length = pre.length + 1 := by simp
        obtain ⟨k, hk⟩ : ∃ k, pre.length = k := ⟨_, rfl⟩
        rw [hk] at h1 hcond h3 g1 g2 g3 hplen
        have hki : k < K := by
          by_cases e : k = K
          · rw [e, HGK.out] at g1; cases g1
          · omega
        have hkd : k < ds.length := by rw [HDS.out]; exact hki
        obtain ⟨p1, p2, p3⟩ := HPA.out.2 k hkd
        have hup : x.at_ = ds[k].at_ := g3.trans p1.symm
        have hbd : x.body = ds[k].body := g2.trans p2.symm
        have hbX : Below (q18 + 1) WA X := Same.below (h4.mono fun k (hk : k < q18 + 1) => ⟨by have := tfA.size; omega, by omega⟩)
        have tfX := tfA.below hbX
        obtain ⟨bi, rfl, _, hbi, hc0, hc1⟩ := tfX.own18.get k hkd
        have hrdp := p3 X tfX.rd2
        obtain ⟨d, hd⟩ : ∃ d, ds[k] = d := ⟨_, rfl⟩
        rw [hd] at hup hbd hc0 hc1 hrdp
        obtain ⟨xat, xA, xc, xb, xbase⟩ := x
        obtain ⟨dat, dA, dc, db⟩ := d
        simp only at hup hbd hc0 hc1 hrdp hown g2 g5 g6 hcells
        subst hup
        subst hbd
        have hx := hown.xrow
        obtain ⟨xA', xc', exA, hxc, hxcm, hrdx⟩ := hown.slice
        have hrdx' : Rd X xA xb := by
          injection exA with e1
          rw [e1]
          exact hrdx
        obtain ⟨xn, hxn⟩ : ∃ n, xb.length = n := ⟨_, rfl⟩
        rw [hxn] at hc1 hx
        have HXN := Lib.hid hxn
        have k19X := k19A.same h4 ⟨by omega, by omega⟩
        have hxs : xn < 9223372036854775807 := by
          have h := Wr.split_bounds (Wr.rest k s)
          have h2 := Wr.rest_len k s
          have h3 : xb = (Wr.splitR (Wr.rest k s)).1 := g2
          rw [← h3] at h
          have := HN2.out
          omega
        rw [hT0]
        simp only [List.setIfInBounds_toArray, List.set_cons_succ, List.set_cons_zero, hxn]
        have HREST := Lib.hid hrest
        have HPL := Lib.hid hplen
        have HCELLS := Lib.hid hcells
        clear hxn hplen hown exA hxc hxcm hrdx g1 g2 g3 p1 p2 p3 hd hT0 hrest hK0 HS hcells hbX
        have hk9 : (k : Int) + 1 ≤ 9223372036854775807 := by
          have := HN2.out
          have u1 := Wr.upto_ge s k (fun i hi => HPA.out.1 i (by omega))
          have u2 := Wr.upto_le s k (fun i hi => HPA.out.1 i (by omega))
          omega
        gi_wp2_with fail
        have WR0 := wide_round l0
        refine wpIn_region_vals WR0 [Pr.eq (.int .i64 (k : Int)), Pr.eq (.slice (some ⟨bi, 0, none⟩) K c18), Pr.eq (.int .i64 (K : Int)), Pr.eq (.bool false), Pr.eq (.bool false), Pr.eq (.int .i64 xat), Pr.eq (.slice (some ⟨bi, 0, none⟩) K c18), Pr.eq (.int .i64 (k : Int)), Pr.eq (.pointer (some ⟨bi, k * 2, none⟩)), Pr.eq (.pointer (some ⟨bi, k * 2, none⟩)), Pr.eq (.int .i64 xat), Pr.eq (.bool false), Pr.eq (.bool false), Pr.eq (.bool false), Pr.eq (.slice xA xn xc), Pr.eq (.string ⟨xb.toArray⟩), Pr.eq (.slice (some ⟨bi, 0, none⟩) K c18), Pr.eq (.int .i64 (k : Int)), Pr.eq (.pointer (some ⟨bi, k * 2, none⟩)), Pr.eq (.pointer (some ⟨bi, k * 2 + 1, none⟩)), Pr.eq (.slice dA xn dc), Pr.eq (.string ⟨xb.toArray⟩), Pr.eq (.bool false), Pr.eq (.bool false)] (by kernel_rfl) (by kernel_rfl) (by kernel_rfl) (by kernel_rfl) (by kernel_rfl) ⟨?_, ?_, ?_, ?_, ?_, ?_, ?_, ?_, ?_, ?_, ?_, ?_, ?_, ?_, ?_, ?_, ?_, ?_, ?_, ?_, ?_, ?_, ?_, ?_, trivial⟩ ?_
        · exact fun ac W hL he => stepOk_want rfl (op_load rfl (he.keep (.tmp 20) (by kernel_rfl)) (loadInt ((h3.later hL).cell 0 |>.trans rfl)) rfl)
        · exact fun ac W hL he => stepOk_want rfl (op_load rfl (he.keep (.tmp 18) (by kernel_rfl)) (loadParts ((tfX.k18.later hL).cell 0 |>.trans rfl)) rfl)
        · exact fun ac W hL he => stepOk_want rfl (op_len Try.underlying85 rfl (he.get 1 108 (by kernel_rfl) rfl) rfl)
        · exact fun ac W hL he => stepOk_want rfl (op_binOp rfl (he.get 0 107 (by kernel_rfl) rfl) (he.get 2 109 (by kernel_rfl) rfl) rfl (geqI (by omega)) rfl)
        · exact fun ac W hL he => stepOk_want rfl (op_move rfl (he.get 3 110 (by kernel_rfl) rfl))
        · exact fun ac W hL he => stepOk_yes (j := 4) (t := 111) (b := false) rfl rfl (he.get 4 111 (by kernel_rfl) rfl) (op_move rfl (he.keep (.tmp 21) (by kernel_rfl)))
        · exact fun ac W hL he => stepOk_yes (j := 4) (t := 111) (b := false) rfl rfl (he.get 4 111 (by kernel_rfl) rfl) (op_load rfl (he.keep (.tmp 18) (by kernel_rfl)) (loadParts ((tfX.k18.later hL).cell 0 |>.trans rfl)) rfl)
        · exact fun ac W hL he => stepOk_yes (j := 4) (t := 111) (b := false) rfl rfl (he.get 4 111 (by kernel_rfl) rfl) (op_load rfl (he.keep (.tmp 20) (by kernel_rfl)) (loadInt ((h3.later hL).cell 0 |>.trans rfl)) rfl)
        · exact fun ac W hL he => stepOk_yes (j := 4) (t := 111) (b := false) rfl rfl (he.get 4 111 (by kernel_rfl) rfl) (op_idx rfl (he.get 6 113 (by kernel_rfl) rfl) (he.get 7 114 (by kernel_rfl) rfl) (idxParts W hki) rfl)
        · exact fun ac W hL he => stepOk_yes (j := 4) (t := 111) (b := false) rfl rfl (he.get 4 111 (by kernel_rfl) rfl) (op_fieldAddr rfl (he.get 8 115 (by kernel_rfl) rfl) (fieldPart0 W) rfl)
        · exact fun ac W hL he => stepOk_yes (j := 4) (t := 111) (b := false) rfl rfl (he.get 4 111 (by kernel_rfl) rfl) (op_load rfl (he.get 9 116 (by kernel_rfl) rfl) (loadInt (hL.cell hc0)) rfl)
        · exact fun ac W hL he => stepOk_yes (j := 4) (t := 111) (b := false) rfl rfl (he.get 4 111 (by kernel_rfl) rfl) (op_binOp rfl (he.get 5 112 (by kernel_rfl) rfl) (he.get 10 117 (by kernel_rfl) rfl) eqgI (neqI_me _ _ _) rfl)
        · exact fun ac W hL he => stepOk_want rfl (op_pick (b := false) rfl (he.get 4 111 (by kernel_rfl) rfl) (he.get 11 118 (by kernel_rfl) rfl))
        · exact fun ac W hL he => stepOk_want rfl (op_move rfl (he.get 12 119 (by kernel_rfl) rfl))
        · exact fun ac W hL he => stepOk_yes (j := 13) (t := 120) (b := false) rfl rfl (he.get 13 120 (by kernel_rfl) rfl) (op_move rfl (he.keep (.tmp 22) (by kernel_rfl)))
        · exact fun ac W hL he => stepOk_yes (j := 13) (t := 120) (b := false) rfl rfl (he.get 13 120 (by kernel_rfl) rfl) (op_convert rfl (he.get 14 121 (by kernel_rfl) rfl) (strOf (hrdx'.later hL) HXN.out) (Later.refl _) rfl)
        · exact fun ac W hL he => stepOk_yes (j := 13) (t := 120) (b := false) rfl rfl (he.get 13 120 (by kernel_rfl) rfl) (op_load rfl (he.keep (.tmp 18) (by kernel_rfl)) (loadParts ((tfX.k18.later hL).cell 0 |>.trans rfl)) rfl)
        · exact fun ac W hL he => stepOk_yes (j := 13) (t := 120) (b := false) rfl rfl (he.get 13 120 (by kernel_rfl) rfl) (op_load rfl (he.keep (.tmp 20) (by kernel_rfl)) (loadInt ((h3.later hL).cell 0 |>.trans rfl)) rfl)
        · exact fun ac W hL he => stepOk_yes (j := 13) (t := 120) (b := false) rfl rfl (he.get 13 120 (by kernel_rfl) rfl) (op_idx rfl (he.get 16 123 (by kernel_rfl) rfl) (he.get 17 124 (by kernel_rfl) rfl) (idxParts W hki) rfl)
        · exact fun ac W hL he => stepOk_yes (j := 13) (t := 120) (b := false) rfl rfl (he.get 13 120 (by kernel_rfl) rfl) (op_fieldAddr rfl (he.get 18 125 (by kernel_rfl) rfl) (fieldPart1 W) rfl)
        · exact fun ac W hL he => stepOk_yes (j := 13) (t := 120) (b := false) rfl rfl (he.get 13 120 (by kernel_rfl) rfl) (op_load rfl (he.get 19 126 (by kernel_rfl) rfl) (loadSl (hL.cell hc1)) rfl)
        · exact fun ac W hL he => stepOk_yes (j := 13) (t := 120) (b := false) rfl rfl (he.get 13 120 (by kernel_rfl) rfl) (op_convert rfl (he.get 20 127 (by kernel_rfl) rfl) (strOf (hrdp.later hL) HXN.out) (Later.refl _) rfl)
        · exact fun ac W hL he => stepOk_yes (j := 13) (t := 120) (b := false) rfl rfl (he.get 13 120 (by kernel_rfl) rfl) (op_binOp rfl (he.get 15 122 (by kernel_rfl) rfl) (he.get 21 128 (by kernel_rfl) rfl) eqgS (neqS_self _ _) rfl)
        · exact fun ac W hL he => stepOk_want rfl (op_pick (b := false) rfl (he.get 13 120 (by kernel_rfl) rfl) (he.get 22 129 (by kernel_rfl) rfl))
        intro zz Wz hL hzz
        have e130 : zz 23 = .bool false := hzz 23 (by decide)
        have hxz := hx.below hL
        have tfz := tfX.below (hL.mono tfX.size)
        have k20z := h3.later hL
        have k19z := k19X.later hL
        have hszX := h4.size
        have hszz := hL.size
        clear hzz tfX h3 k19X hx hc0 hc1 hrdp hrdx'
        simp only [putL, Nat.reduceAdd, Act.put, List.setIfInBounds_toArray, List.set_cons_succ, List.set_cons_zero]
        rw [e130]
        clear e130
        gi_wp2_with fail
        gi_loopw [23] (fun t wr => ∃ j : Nat, j ≤ xn ∧ t = .int .i64 (j : Int) ∧ XRow 5 wr xbase (.slice xA xn xc) xn ∧ KeepW (fun b => b = q20) ⟨xat, xA, xc, xb, xbase⟩ Wz wr ∧ Below WA.heap.size Wz wr) (fun t _ => xn - (intOf t).toNat)
        case atStart => exact ⟨0, by omega, rfl, hxz, KeepW.refl _ _ _, Below.refl _ _⟩
        case round =>
          clear hxz
          obtain ⟨jj, hj, rfl, hx, hkw, hbw⟩ := hrel
          by_cases hltj : jj < xn
          · have hd : decide ((jj : Int) < (xn : Int)) = true := decide_eq_true (by omega)
            have hd' : decide (jj < xn) = true := decide_eq_true hltj
            rcases hx with hx | ⟨g4, cap4, cs, e4, hg4, hrow4, hsz4, hcs4⟩
            · omega
            · injection e4 with e4 _ e5
              subst e4
              obtain ⟨y, hy⟩ := hcs4 jj hltj
              have hc4 : wr.cell? ⟨g4, jj, none⟩ = some (.int .u8 (y.toNat : Int)) := (hrow4.cell jj).trans hy
              have hf4 := hrow4.frozen jj
              have hy8 := y.toNat_lt
              have HCS := Lib.hid hcs4
              clear hy hcs4
              gi_wp2_with fail
              go_roundw
              case rel =>
                refine ⟨jj + 1, by omega, by go_num, .inr ⟨g4, cap4, _, by rw [e5], hg4, hrow4.set jj _, by simpa using hsz4, ?_⟩, hkw.trans (KeepW.elem wr rfl jj _), hbw.setCell (p := ⟨g4, jj, none⟩) (by show WA.heap.size ≤ g4; omega) _⟩
                intro k hk
                by_cases e : jj = k
                · subst e
                  refine ⟨UInt8.ofNat (y.toNat + 1), ?_⟩
                  rw [Array.getElem?_setIfInBounds_self, if_pos (by omega), byteV, UInt8.toNat_ofNat']
                  congr 2
                · rw [Array.getElem?_setIfInBounds_ne e]
                  exact HCS.out k hk
              case measure => simp [intOf]; omega
          · obtain rfl : jj = xn := by omega
            have hd : decide ((jj : Int) < (jj : Int)) = false := decide_eq_false (by omega)
            have hd' : decide (jj < jj) = false := decide_eq_false (by omega)
            have k20r := k20z.upto hbw hlt20
            have k19r := k19z.upto hbw (by omega)
            have tfr := tfz.below (hbw.mono (by omega))
            have hqM := tfr.hq
            have c20 : wr.cell? ⟨q20, 0, none⟩ = some (.int .i64 (k : Int)) := (k20r.cell 0).trans rfl
            have f20 : wr.frozen? ⟨q20, 0, none⟩ = false := k20r.frozen 0
            have hset := k20r.set 0 (.int .i64 ((k : Int) + 1))
            have k19s := k19r.far (p := ⟨q20, 0, none⟩) (by show q19 ≠ q20; omega) (.int .i64 ((k : Int) + 1))
            have k5s := tfr.k5.far (p := ⟨q20, 0, none⟩) (by show q ≠ q20; omega) (.int .i64 ((k : Int) + 1))
            have c20s : (wr.setCell ⟨q20, 0, none⟩ (.int .i64 ((k : Int) + 1))).cell? ⟨q20, 0, none⟩ = some (.int .i64 ((k : Int) + 1)) := (hset.cell 0).trans rfl
            have c19s : (wr.setCell ⟨q20, 0, none⟩ (.int .i64 ((k : Int) + 1))).cell? ⟨q19, 0, none⟩ = some (.int .i64 0) := (k19s.cell 0).trans rfl
            have c5s : (wr.setCell ⟨q20, 0, none⟩ (.int .i64 ((k : Int) + 1))).cell? ⟨q, 0, none⟩ = some (.int .i64 many) := (k5s.cell 0).trans rfl
            have hwr1 : IntKind.i64.wrap ((k : Int) + 1) = (k : Int) + 1 := IntWalk.i64_in _ (by omega)
            have hkwX : KeepW (fun b => b = q20) ⟨xat, xA, xc, xb, xbase⟩ X (wr.setCell ⟨q20, 0, none⟩ (.int .i64 ((k : Int) + 1))) := (KeepW.of_later hL).trans (hkw.trans (KeepW.set wr ⟨q20, 0, none⟩ _ rfl))
            have hkf : KeepsFrom WA.heap.size X (wr.setCell ⟨q20, 0, none⟩ (.int .i64 ((k : Int) + 1))) := hkwX.from (fun b h => by omega) (fun b o e => HCELLS.out b o e)
            have hkw2 : KeepW (fun b => b = q20 ∨ b = WA.heap.size + 1) ⟨xat, xA, xc, xb, xbase⟩ X (wr.setCell ⟨q20, 0, none⟩ (.int .i64 ((k : Int) + 1))) := hkwX.mono (fun b h => .inl h) rfl
            have hsame : Same (fun k => k < WA.heap.size ∧ k ≠ q20) WA (wr.setCell ⟨q20, 0, none⟩ (.int .i64 ((k : Int) + 1))) := ((h4.trans ((Same.of_below hL).mono fun k hk => by have := hk.1; omega)).trans ((Same.of_below hbw).mono fun k hk => hk.1)).trans ((Same.set wr ⟨q20, 0, none⟩ _).mono fun k hk => hk.2)
            clear k20r k19r tfr k19s k5s hkwX hbw hkw hx h4 hL tfz k20z k19z
            by_cases hbr : many ≤ (k : Int) + 1
            · have hdb : decide (many ≤ (k : Int) + 1) = true := decide_eq_true hbr
              gi_wp2_with fail
              exact ⟨hkf, hkw2, rfl, by rw [HPL.out]; exact HZE.out k hki hcond hbr, by rw [HPL.out]; exact hset, hsame⟩
            · have hdb : decide (many ≤ (k : Int) + 1) = false := decide_eq_false hbr
              gi_wp2_with fail
              exact ⟨hkf, hkw2, by rw [HPL.out]; exact hki, .inr (by rw [HPL.out]; omega), by rw [HPL.out]; exact hset, hsame⟩
      case done =>
        rintro D0 ys X hD hS ⟨h1, h2, h3, h4⟩ hK
        have hyK : ys.length = K := by
          by_cases e : ys.length = K
          · exact e
          · have hg := HPA.out.1 ys.length (by rw [HDS.out]; omega)
            rw [hS.1] at hg
            cases hg
        rw [hyK] at h2 h3
        have hZK := HZD.out h2
        exact hrest D0 X hD hK (by rw [hZK]; exact h3) h4
      case stop =>
        rintro D0 c' pre X hD hSp ⟨rfl, hZ, h3, h4⟩ hK
        rw [hZ] at h3
        gi_wp2
        exact hrest D0 X hD hK h3 h4
end Go.Proofs.Ytmipaacobioakaa
