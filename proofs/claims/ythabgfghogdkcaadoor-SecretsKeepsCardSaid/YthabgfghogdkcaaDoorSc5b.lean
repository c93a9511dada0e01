/- Walks, secrets: fits. -/
import Derived.Test.YthabgfghogdkcaaDoorSc5
set_option linter.unusedVariables false
set_option linter.unusedSimpArgs false
namespace Go.Proofs.YthabgfghogdkcaaDoor
open Go.RowKit
set_option maxHeartbeats 4000000 in
set_option maxRecDepth 100000 in
theorem fits_any (g p : Nat) (n : Int) (ix : Nat → Nat) (sc : Nat → List UInt8) (er : Int) (w : World) (hp : p < 32) (hk : IsKeep w g n ix sc) :
    Calls Tryd.prog 31 #[.pointer (some ⟨g, 0, none⟩), .int .i64 (p : Int), .int .i64 er] w fun e w' => Below w.heap.size w w' ∧ e = if Sec.fitB ix sc p p then .returned (.tuple #[]) else .panicked (gaveUp er) := by
  have hlen := hk.len
  have hlim := hk.lim
  have hrow := hk.row
  have HLEN := Lib.hid hlen
  have HLIM := Lib.hid hlim
  have hpl : (sc p).length ≤ 32 := Nat.le_of_eq (hlen p)
  have hld := loadPlace hrow hp hpl
  obtain ⟨w1, hst, hq1, hg1⟩ := putPt (i := 0) (s := []) (j := ix p) (t := sc p) (by decide) hpl (Row.new w 57 (ptC 0 []))
  have hrow1 := (hrow.alloc (.cells (ptC 0 []) 57)).grown hg1 (by intro e; injection e with e; have := hrow.lt; omega)
  have hb1 : Below w.heap.size w w1 := (below_new w (.cells (ptC 0 []) 57)).grown hg1 (by simp only [World.size_alloc]; omega) (fun j e => by cases e; exact Nat.le_refl _)
  have HPL := Lib.hid hpl
  clear hlen hlim hk hg1 hpl
  refine Calls.post fun Φ HΦ => ?_
  go_enter Tryd.func31, Tryd.ntmps31
  go_upto_region 1 with (first
    | (refine wpList_field rfl 60 (.tmp 11) 1 rfl (.pointer (some ⟨g, 0, none⟩)) rfl fieldPlaces ?_)
    | (refine wpList_idx rfl 58 (.tmp 12) (.tmp 10) rfl (.pointer (some ⟨g, 1, none⟩)) (.int .i64 (p : Int)) rfl rfl (idxKept hp) ?_)
    | (refine wpList_load rfl 57 (.tmp 13) rfl (.pointer (some ⟨g, 1 + 33 * p, none⟩)) rfl hld ?_)
    | (with_reducible refine wpList_alloc rfl 57 rfl (allocP _) ?_)
    | (refine wpList_store rfl 57 (.tmp 6) (.tmp 14) rfl (.pointer (some ⟨w.heap.size, 0, none⟩)) (.agg (ptC (ix p) (sc p))) rfl rfl hst ?_)
    | fail)
  obtain ⟨q, hq⟩ : ∃ q, q = w.heap.size := ⟨_, rfl⟩
  rw [← hq] at hq1 ⊢
  have HQ := Lib.hid hq
  clear hq hld hst hrow
  go_wp2_with (first
    | (refine wpList_field rfl 60 (.tmp 16) 1 rfl (.pointer (some ⟨g, 0, none⟩)) rfl fieldPlaces ?_)
    | (refine wpList_sliceHi rfl 58 (.tmp 17) (.tmp 18) rfl (.pointer (some ⟨g, 1, none⟩)) (.int .i64 (p : Int)) rfl rfl (sliceKept (by omega)) ?_)
    | fail)
  go_loopw [21] (fun t wr => ∃ k : Nat, k ≤ p ∧ t = .int .i64 k ∧ Sec.fitB ix sc p k = true ∧ Row wr q 57 (ptC (ix p) (sc p)) ∧ Row wr g 60 (kC n ix sc true) ∧ Below w.heap.size w wr) (fun t _ => p - (intOf t).toNat)
  case atStart => exact ⟨0, by omega, rfl, rfl, hq1, hrow1, hb1⟩
  case round =>
    obtain ⟨k, hk, rfl, hfb, hqr, hgr, hbw⟩ := hrel
    clear hq1 hrow1 hb1
    have HFB := Lib.hid hfb
    clear hfb
    by_cases hlt : k < p
    · have hkl : (sc k).length ≤ 32 := Nat.le_of_eq (HLEN.out k)
      have hld := loadPlace hgr (show k < 32 by omega) hkl
      obtain ⟨w2, hst, hq2, hg2⟩ := putPt (i := 0) (s := []) (j := ix k) (t := sc k) (by decide) hkl (Row.new wr 57 (ptC 0 []))
      have hgr2 := (hgr.alloc (.cells (ptC 0 []) 57)).grown hg2 (by intro e; injection e with e; have := hgr.lt; omega)
      have hqr2 := (hqr.alloc (.cells (ptC 0 []) 57)).grown hg2 (by intro e; injection e with e; have := hqr.lt; omega)
      have hb2 : Below w.heap.size w w2 := (hbw.alloc hbw.size (.cells (ptC 0 []) 57)).grown hg2 (by have := hbw.size; simp only [World.size_alloc]; omega) (fun j e => by cases e; exact hbw.size)
      clear hg2
      have HKL := Lib.hid hkl
      clear hkl
      go_upto_region 4 with (first
        | (refine wpList_idx rfl 66 (.tmp 19) (.tmp 21) rfl (.slice (some ⟨g, 1, none⟩) p 32) (.int .i64 (k : Int)) rfl rfl (idxKeptS hlt (by omega)) ?_)
        | (refine wpList_load rfl 57 (.tmp 23) rfl (.pointer (some ⟨g, 1 + 33 * k, none⟩)) rfl hld ?_)
        | (with_reducible refine wpList_alloc rfl 57 rfl (allocP _) ?_)
        | (refine wpList_store rfl 57 (.tmp 8) (.tmp 24) rfl (.pointer (some ⟨wr.heap.size, 0, none⟩)) (.agg (ptC (ix k) (sc k))) rfl rfl hst ?_)
        | fail)
      obtain ⟨q8, hq8⟩ : ∃ q8, q8 = wr.heap.size := ⟨_, rfl⟩
      rw [← hq8] at hq2 ⊢
      clear hq8 hld hst
      refine (wpIn_wide (n := 0)).1 ?_
      by_cases hle : ix k ≤ ix p
      · have hone : Sec.fitOne ix sc p k = true := by unfold Sec.fitOne; rw [decide_eq_true hle]; rfl
        have hleI : ((ix k : Int) ≤ (ix p : Int)) := by omega
        refine wpIn_region_last wide_wide [Pr.eq (.pointer (some ⟨q8, 0, none⟩)), Pr.eq (.int .i64 (ix k : Int)), Pr.eq (.pointer (some ⟨q, 0, none⟩)), Pr.eq (.int .i64 (ix p : Int)), Pr.eq (.bool true), Pr.eq (.bool true), Pr.eq (undef), Pr.eq (undef), Pr.eq (undef), Pr.eq (undef), Pr.eq (undef), Pr.eq (undef), Pr.eq (undef), Pr.eq (undef), Pr.eq (undef), Pr.eq (.bool true), Pr.eq (.int .i64 er)] (by kernel_rfl) (by kernel_rfl) (by kernel_rfl) (by kernel_rfl) (by kernel_rfl) (by kernel_rfl) rfl ⟨?_, ?_, ?_, ?_, ?_, ?_, ?_, ?_, ?_, ?_, ?_, ?_, ?_, ?_, ?_, ?_, ?_, trivial⟩ ?_
        · exact fun ac W hL he => stepOk_want rfl (op_fieldAddr rfl (he.keep (.tmp 8) (by kernel_rfl)) fieldKept0 rfl)
        · exact fun ac W hL he => stepOk_want rfl (op_load rfl (he.get 0 25 (by kernel_rfl) rfl) (loadI64 (((hq2.later hL).cell 0).trans (ptC_ix _ _))) rfl)
        · exact fun ac W hL he => stepOk_want rfl (op_fieldAddr rfl (he.keep (.tmp 6) (by kernel_rfl)) fieldKept0 rfl)
        · exact fun ac W hL he => stepOk_want rfl (op_load rfl (he.get 2 27 (by kernel_rfl) rfl) (loadI64 (((hqr2.later hL).cell 0).trans (ptC_ix _ _))) rfl)
        · exact fun ac W hL he => stepOk_want rfl (op_binOp rfl (he.get 1 26 (by kernel_rfl) rfl) (he.get 3 28 (by kernel_rfl) rfl) (eqg_any rfl) (leq64 hleI) rfl)
        · exact fun ac W hL he => stepOk_want rfl (op_move rfl (he.get 4 29 (by kernel_rfl) rfl))
        · exact fun ac W hL he => stepOk_no rfl rfl (he.get 5 30 (by kernel_rfl) rfl) (by decide) rfl
        · exact fun ac W hL he => stepOk_no rfl rfl (he.get 5 30 (by kernel_rfl) rfl) (by decide) rfl
        · exact fun ac W hL he => stepOk_no rfl rfl (he.get 5 30 (by kernel_rfl) rfl) (by decide) rfl
        · exact fun ac W hL he => stepOk_no rfl rfl (he.get 5 30 (by kernel_rfl) rfl) (by decide) rfl
        · exact fun ac W hL he => stepOk_no rfl rfl (he.get 5 30 (by kernel_rfl) rfl) (by decide) rfl
        · exact fun ac W hL he => stepOk_no rfl rfl (he.get 5 30 (by kernel_rfl) rfl) (by decide) rfl
        · exact fun ac W hL he => stepOk_no rfl rfl (he.get 5 30 (by kernel_rfl) rfl) (by decide) rfl
        · exact fun ac W hL he => stepOk_no rfl rfl (he.get 5 30 (by kernel_rfl) rfl) (by decide) rfl
        · exact fun ac W hL he => stepOk_no rfl rfl (he.get 5 30 (by kernel_rfl) rfl) (by decide) rfl
        · exact fun ac W hL he => stepOk_want rfl (op_pick (b := true) rfl (he.get 5 30 (by kernel_rfl) rfl) rfl)
        · exact fun ac W hL he => stepOk_want rfl (op_move rfl (he.keep (.tmp 2) (by kernel_rfl)))
        · intro xs W hL hx hk' hg
          have e1 := hg 15 40 (by decide) (by kernel_rfl)
          have v1 : xs 15 = .bool true := hx 15 (by decide)
          rw [v1] at e1
          have e2 := hg 16 41 (by decide) (by kernel_rfl)
          have v2 : xs 16 = .int .i64 er := hx 16 (by decide)
          rw [v2] at e2
          have hq3 := hqr2.later hL
          have hg3 := hgr2.later hL
          have hb3 : Below w.heap.size w W := hb2.trans (hL.mono hb2.size)
          refine last_callP (vs := #[.bool true, .int .i64 er]) rfl (by simp only [List.map_toArray, List.map_cons, List.map_nil, e1, e2]) (enters_of Tryd.func39 (by kernel_rfl) rfl) ?_
          refine (smust_ok er W).mono ?_
          rintro e W' ⟨rfl, rfl⟩
          refine .inl ⟨_, rfl, ?_⟩
          clear hx hk' hg e1 e2 v1 v2
          simp only [initL, lastL, putL, Nat.reduceAdd, Act.put, List.setIfInBounds_toArray, List.set_cons_succ, List.set_cons_zero]
          go_wp2_with fail
          go_roundw
          case rel => exact ⟨k + 1, by omega, by go_num, by rw [Sec.fitB_succ, HFB.out, hone]; rfl, hq3, hg3, hb3⟩
          case measure => simp [intOf]; omega
      · have hleI : ¬ ((ix k : Int) ≤ (ix p : Int)) := by omega
        have hone : Sec.fitOne ix sc p k = (Sec.down (sc p) p (ix k) == sc k) := by unfold Sec.fitOne; rw [decide_eq_false hle]; rfl
        have hdl : (Sec.down (sc p) p (ix k)).length = 32 := Sec.down_len _ _ _ (HLEN.out p)
        have hcall := fun W => down_any (sc p) p (ix k) W (HLEN.out p) (by omega) (by have := HLIM.out k; omega)
        generalize Sec.down (sc p) p (ix k) = y at *
        obtain ⟨z, hz⟩ : ∃ z, z = (y == sc k) := ⟨_, rfl⟩
        have heq : ∀ W, (binOp .eql 23 (.agg (hC y)) (.agg (hC (sc k)))).run Tryd.prog W = .ok (.bool z) W := fun W => by rw [hz]; exact eqlHash y (sc k) hdl (HLEN.out k) W
        rw [← hz] at hone
        clear hz
        refine wpIn_region_last wide_wide [Pr.eq (.pointer (some ⟨q8, 0, none⟩)), Pr.eq (.int .i64 (ix k : Int)), Pr.eq (.pointer (some ⟨q, 0, none⟩)), Pr.eq (.int .i64 (ix p : Int)), Pr.eq (.bool false), Pr.eq (.bool false), Pr.eq (.pointer (some ⟨q, 0 + 1, none⟩)), Pr.eq (.agg (hC (sc p))), Pr.eq (.int .i64 (p : Int)), Pr.eq (.pointer (some ⟨q8, 0, none⟩)), Pr.eq (.int .i64 (ix k : Int)), Pr.eq (.agg (hC y)), Pr.eq (.pointer (some ⟨q8, 0 + 1, none⟩)), Pr.eq (.agg (hC (sc k))), Pr.eq (.bool z), Pr.eq (.bool z), Pr.eq (.int .i64 er)] (by kernel_rfl) (by kernel_rfl) (by kernel_rfl) (by kernel_rfl) (by kernel_rfl) (by kernel_rfl) rfl ⟨?_, ?_, ?_, ?_, ?_, ?_, ?_, ?_, ?_, ?_, ?_, ?_, ?_, ?_, ?_, ?_, ?_, trivial⟩ ?_
        · exact fun ac W hL he => stepOk_want rfl (op_fieldAddr rfl (he.keep (.tmp 8) (by kernel_rfl)) fieldKept0 rfl)
        · exact fun ac W hL he => stepOk_want rfl (op_load rfl (he.get 0 25 (by kernel_rfl) rfl) (loadI64 (((hq2.later hL).cell 0).trans (ptC_ix _ _))) rfl)
        · exact fun ac W hL he => stepOk_want rfl (op_fieldAddr rfl (he.keep (.tmp 6) (by kernel_rfl)) fieldKept0 rfl)
        · exact fun ac W hL he => stepOk_want rfl (op_load rfl (he.get 2 27 (by kernel_rfl) rfl) (loadI64 (((hqr2.later hL).cell 0).trans (ptC_ix _ _))) rfl)
        · exact fun ac W hL he => stepOk_want rfl (op_binOp rfl (he.get 1 26 (by kernel_rfl) rfl) (he.get 3 28 (by kernel_rfl) rfl) (eqg_any rfl) (leq64_no hleI) rfl)
        · exact fun ac W hL he => stepOk_want rfl (op_move rfl (he.get 4 29 (by kernel_rfl) rfl))
        · exact fun ac W hL he => stepOk_yes (j := 5) (t := 30) (b := false) rfl rfl (he.get 5 30 (by kernel_rfl) rfl) (op_fieldAddr rfl (he.keep (.tmp 6) (by kernel_rfl)) fieldKept1 rfl)
        · exact fun ac W hL he => stepOk_yes (j := 5) (t := 30) (b := false) rfl rfl (he.get 5 30 (by kernel_rfl) rfl) (op_load rfl (he.get 6 31 (by kernel_rfl) rfl) (loadPtHash HPL.out (hqr2.later hL)) rfl)
        · exact fun ac W hL he => stepOk_yes (j := 5) (t := 30) (b := false) rfl rfl (he.get 5 30 (by kernel_rfl) rfl) (op_move rfl (he.keep (.tmp 1) (by kernel_rfl)))
        · exact fun ac W hL he => stepOk_yes (j := 5) (t := 30) (b := false) rfl rfl (he.get 5 30 (by kernel_rfl) rfl) (op_fieldAddr rfl (he.keep (.tmp 8) (by kernel_rfl)) fieldKept0 rfl)
        · exact fun ac W hL he => stepOk_yes (j := 5) (t := 30) (b := false) rfl rfl (he.get 5 30 (by kernel_rfl) rfl) (op_load rfl (he.get 9 34 (by kernel_rfl) rfl) (loadI64 (((hq2.later hL).cell 0).trans (ptC_ix _ _))) rfl)
        · intro ac W hL he; refine stepOk_yes (j := 5) (t := 30) (b := false) rfl rfl (he.get 5 30 (by kernel_rfl) rfl) ?_; have e0 : ac.eval (.tmp 32) = .agg (hC (sc p)) := (he.get 7 32 (by kernel_rfl) rfl); have e1 : ac.eval (.tmp 33) = .int .i64 (p : Int) := (he.get 8 33 (by kernel_rfl) rfl); have e2 : ac.eval (.tmp 35) = .int .i64 (ix k : Int) := (he.get 10 35 (by kernel_rfl) rfl); exact op_callF (vs := #[.agg (hC (sc p)), .int .i64 (p : Int), .int .i64 (ix k : Int)]) rfl (by simp only [List.map_toArray, List.map_cons, List.map_nil, e0, e1, e2]) (enters_of Tryd.func25 (by kernel_rfl) rfl) (((hcall W)).mono fun e W' ⟨he', hb⟩ => ⟨_, he', hb, rfl⟩)
        · exact fun ac W hL he => stepOk_yes (j := 5) (t := 30) (b := false) rfl rfl (he.get 5 30 (by kernel_rfl) rfl) (op_fieldAddr rfl (he.keep (.tmp 8) (by kernel_rfl)) fieldKept1 rfl)
        · exact fun ac W hL he => stepOk_yes (j := 5) (t := 30) (b := false) rfl rfl (he.get 5 30 (by kernel_rfl) rfl) (op_load rfl (he.get 12 37 (by kernel_rfl) rfl) (loadPtHash HKL.out (hq2.later hL)) rfl)
        · exact fun ac W hL he => stepOk_yes (j := 5) (t := 30) (b := false) rfl rfl (he.get 5 30 (by kernel_rfl) rfl) (op_binOp rfl (he.get 11 36 (by kernel_rfl) rfl) (he.get 13 38 (by kernel_rfl) rfl) (eqgHash _ _ _ _ _ _) (heq _) rfl)
        · exact fun ac W hL he => stepOk_want rfl (op_pick (b := false) rfl (he.get 5 30 (by kernel_rfl) rfl) (he.get 14 39 (by kernel_rfl) rfl))
        · exact fun ac W hL he => stepOk_want rfl (op_move rfl (he.keep (.tmp 2) (by kernel_rfl)))
        · intro xs W hL hx hk' hg
          have e1 := hg 15 40 (by decide) (by kernel_rfl)
          have v1 : xs 15 = .bool z := hx 15 (by decide)
          rw [v1] at e1
          have e2 := hg 16 41 (by decide) (by kernel_rfl)
          have v2 : xs 16 = .int .i64 er := hx 16 (by decide)
          rw [v2] at e2
          have hq3 := hqr2.later hL
          have hg3 := hgr2.later hL
          have hb3 : Below w.heap.size w W := hb2.trans (hL.mono hb2.size)
          refine last_callP (vs := #[.bool z, .int .i64 er]) rfl (by simp only [List.map_toArray, List.map_cons, List.map_nil, e1, e2]) (enters_of Tryd.func39 (by kernel_rfl) rfl) ?_
          have HONE := Lib.hid hone
          clear hone
          cases z with
          | true =>
            refine (smust_ok er W).mono ?_
            rintro e W' ⟨rfl, rfl⟩
            refine .inl ⟨_, rfl, ?_⟩
            clear hx hk' hg e1 e2 v1 v2
            simp only [initL, lastL, putL, Nat.reduceAdd, Act.put, List.setIfInBounds_toArray, List.set_cons_succ, List.set_cons_zero]
            go_wp2_with fail
            go_roundw
            case rel => exact ⟨k + 1, by omega, by go_num, by rw [Sec.fitB_succ, HFB.out, HONE.out]; rfl, hq3, hg3, hb3⟩
            case measure => simp [intOf]; omega
          | false =>
            refine (smust_no er W).mono ?_
            rintro e W' ⟨rfl, rfl⟩
            refine .inr ⟨_, rfl, ?_⟩
            exact ⟨rfl, HΦ.out _ _ ⟨hb3, by rw [Sec.fitB_no hlt HONE.out]; rfl⟩⟩
    · obtain rfl : k = p := by omega
      go_wp2
      go_end0
      exact HΦ.out _ _ ⟨hbw, by rw [HFB.out]; rfl⟩
end Go.Proofs.YthabgfghogdkcaaDoor
