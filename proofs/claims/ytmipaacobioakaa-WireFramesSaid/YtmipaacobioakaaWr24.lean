/- Walks: the document's reader takes a text. -/
import Derived.Test.YtmipaacobioakaaWr23
set_option linter.unusedVariables false
set_option linter.unusedSimpArgs false
namespace Go.Proofs.Ytmipaacobioakaa
open Go.RowKit
theorem Rd.grown_rf {w w' : World} {q : Nat} {t : TypeId} {A D : Option Addr} {n c : Nat} {bad : Bool} {T : List UInt8} (h : Rd w D T) (hr : Row w q t (rfV A n c bad)) (hg : w.grownBy w' (some q)) : Rd w' D T := h.grown hg fun b o e hne e2 => by
  subst e
  obtain ⟨b', o', e', hc'⟩ := h hne
  have h9 := hc' 0 (List.length_pos_iff.2 hne)
  injection e' with e'
  injection e' with e1 e3
  subst e1
  exact rf_no_byte hr h9 (Option.some.inj e2)
theorem Wr.textR_no {l : List UInt8} {bad : Bool} {most : Int} (h : (Wr.numR l bad most).2.2 ≠ 0) : Wr.textR l bad most = ((Wr.numR l bad most).1, [], (Wr.numR l bad most).2.2) := by
  unfold Wr.numR at h
  unfold Wr.textR Wr.numR
  cases bad
  · by_cases h0 : most < 0
    · simp [h0]
    · by_cases hm : Wr.may l most
      · simp [h0, hm] at h
      · simp [h0, hm, Wr.textOk]
  · simp
theorem Wr.numR_yes {l : List UInt8} {bad : Bool} {most : Int} (h : (Wr.numR l bad most).2.2 = 0) : bad = false ∧ ¬ most < 0 ∧ Wr.may l most ∧ Wr.numR l bad most = ((l.drop (Wr.first l).2.toNat, false), ((Wr.first l).1 : Int), 0) := by
  unfold Wr.numR at h ⊢
  cases bad
  · by_cases h0 : most < 0
    · simp [h0] at h
    · by_cases hm : Wr.may l most
      · simp [h0, hm]
      · simp [h0, hm] at h
  · simp at h
set_option maxRecDepth 100000 in
set_option maxHeartbeats 2000000 in
theorem refTextR_any (A : Option Addr) (n c : Nat) (l : List UInt8) (bad : Bool) (most : Int) (w : World) (hn : l.length = n) (hc : n ≤ c) (hcm : c ≤ 9223372036854775807) (hnm : n ≤ 9223372036854775000) (hr : Rd w A l) :
    Calls Try.prog 45 #[.agg (rfV A n c bad), .int .i64 most] w fun e w' => Later w w' ∧ ∃ v, e = .returned (.tuple #[v, .string ⟨(Wr.textR l bad most).2.1.toArray⟩, .int .i64 (Wr.textR l bad most).2.2]) ∧ RefV A l v (Wr.textR l bad most).1.1 (Wr.textR l bad most).1.2 := by
  have k2 := (Row.new w 34 (rfV A n c bad)).alloc (.cells (rfV none 0 0 false) 34)
  have k4 := Row.new (w.alloc (.cells (rfV A n c bad) 34)) 34 (rfV none 0 0 false)
  have hb := (((Later.refl w).alloc (.cells (rfV A n c bad) 34)).alloc (.cells (rfV none 0 0 false) 34))
  refine Calls.post fun Φ HΦ => ?_
  go_enter Try.func45, Try.ntmps45
  go_upto_region 1 with (first
    | (with_reducible refine wpList_alloc rfl 34 rfl (allocRf _) ?_)
    | fail)
  simp only [World.size_alloc] at k4 ⊢
  obtain ⟨q, hq⟩ : ∃ q, q = w.heap.size := ⟨_, rfl⟩
  rw [← hq] at k2 k4 ⊢
  generalize (w.alloc (.cells (rfV A n c bad) 34)).alloc (.cells (rfV none 0 0 false) 34) = w1 at *
  have HQ := Lib.hid hq
  have HN := Lib.hid hn
  clear hq hn
  have hld := loadRf k2
  have hr1 := hr.later hb
  have hnum := refNumberR_any A n c l bad most w1 HN.out hc (by omega) hnm hr1
  have hno := @Wr.textR_no l bad most
  have hyes := @Wr.numR_yes l bad most
  obtain ⟨R, hR⟩ : ∃ R, Wr.numR l bad most = R := ⟨_, rfl⟩
  rw [hR] at hnum hno hyes
  obtain ⟨⟨l', bad'⟩, x, no⟩ := R
  simp only at hno hyes hnum
  have HNO := Lib.hid hno
  have HYES := Lib.hid hyes
  clear hno hyes hR
  go_upto_region 2 with (first
    | (refine wpList_load rfl 34 (.tmp 2) rfl (.pointer (some ⟨q, 0, none⟩)) rfl hld ?_)
    | (go_at_call 42; refine hnum.mono ?_; clear hnum; rintro e w2 ⟨hL2, v, rfl, D, c2, rfl, hcc, hcm2, hD⟩; obtain ⟨w3, hst, k73, hg3⟩ := storeRf (A' := D) (n' := l'.length) (c' := c2) (bad' := bad') (Row.new w2 34 (rfV none 0 0 false)))
    | (with_reducible refine wpList_alloc rfl 34 rfl (allocRf _) ?_)
    | (refine wpList_store rfl 34 (.tmp 7) (.tmp 15) rfl (.pointer (some ⟨w2.heap.size, 0, none⟩)) (.agg (rfV D l'.length c2 bad')) rfl rfl hst ?_)
    | fail)
  have hL23 : Later w2 w3 := ((Later.refl w2).alloc (.cells (rfV none 0 0 false) 34)).grown hg3 (by simp) (fun j e => by cases e; omega)
  have k43 := k4.later (hL2.step hL23)
  have k23 := k2.later (hL2.step hL23)
  have hb3 := hb.step (hL2.step hL23)
  have hlt4 := (k4.later hL2).lt
  obtain ⟨q7, hq7⟩ : ∃ q, q = w2.heap.size := ⟨_, rfl⟩
  rw [← hq7] at k73 hlt4 ⊢
  have hld7 := loadRf k73
  have h47 : q7 ≠ q + 1 := by omega
  have h27 : q ≠ q7 := by omega
  have hr3 := hr1.later (hL2.step hL23)
  have hqw : ∀ j, some (q + 1) = some j → w.heap.size ≤ j := fun j e => by cases e; have := HQ.out; omega
  have hq7w : ∀ j, some q7 = some j → w.heap.size ≤ j := fun j e => by cases e; have := HQ.out; have := hlt4; omega
  clear hst hg3 hld k2 k4 hb hr1 hL23 hlt4 hL2
  have H7 := Lib.hid hq7
  clear hq7
  by_cases h0 : no = 0
  · subst h0
    obtain ⟨hbad, hm0, hmay, hnr⟩ := HYES.out rfl
    subst hbad
    simp only [Prod.mk.injEq, and_true] at hnr
    obtain ⟨⟨rfl, rfl⟩, rfl⟩ := hnr
    obtain ⟨hf1, hf2, hf3⟩ := Wr.first_le l
    have hx : Wr.textR l false most = if Wr.textOk l most then ((Wr.textRest l, false), Wr.textAt l, 0) else ((l, true), [], 140) := by unfold Wr.textR; rw [if_neg (by simp), if_neg (by omega)]
    have hok : Wr.textOk l most = decide ((Wr.first l).1 ≤ l.length - (Wr.first l).2.toNat) := by simp [Wr.textOk, hmay]
    have hat : Wr.textAt l = (l.drop (Wr.first l).2.toNat).take (Wr.first l).1 := rfl
    have hre : Wr.textRest l = (l.drop (Wr.first l).2.toNat).drop (Wr.first l).1 := rfl
    rw [hx, hok] at HΦ
    generalize Wr.textAt l = T at *
    generalize Wr.textRest l = S at *
    have hll : (l.drop (Wr.first l).2.toNat).length = n - (Wr.first l).2.toNat := by rw [List.length_drop, HN.out]
    rw [← List.length_drop] at HΦ
    generalize Wr.first l = F at *
    obtain ⟨f, s⟩ := F
    simp only at hf1 hf2 hf3 hat hre hll HΦ k73 hld7 hcc hD ⊢
    generalize hdl : l.drop s.toNat = dl at *
    clear hx hok hmay HYES HNO hnm
    have htk := refTake_any D dl.length c2 dl false f w3 rfl hcc (by omega) (by omega)
    have hrd := hD _ hr3
    have HAT := Lib.hid hat
    have HRE := Lib.hid hre
    have HD := Lib.hid hD
    have HLL := Lib.hid hll
    clear hat hre hdl hll hf1 hf2 hf3 hm0 hD
    by_cases hf : f ≤ dl.length
    · rw [if_pos (decide_eq_true hf)] at HΦ
      go_upto_region 5 with (first
        | (refine wpList_load rfl 34 (.tmp 7) rfl (.pointer (some ⟨q7, 0, none⟩)) rfl hld7 ?_)
        | (go_at_call 69; refine htk.mono ?_; clear htk; rintro e w4 ⟨hL4, ⟨_, _, D2, rfl, hD2⟩ | ⟨h, _⟩⟩; rotate_left; exact absurd h (by simp; omega); obtain ⟨w5, hst, k75, hg5⟩ := storeRf (A' := D2) (n' := dl.length - f) (c' := c2 - f) (bad' := false) (k73.later hL4))
        | (refine wpList_store rfl 34 (.tmp 7) (.tmp 26) rfl (.pointer (some ⟨q7, 0, none⟩)) (.agg (rfV D2 (dl.length - f) (c2 - f) false)) rfl rfl hst ?_)
        | fail)
      have k45 := (k43.later hL4).grown hg5 (fun e => h47 (Option.some.inj e).symm)
      have hb4 := hb3.step hL4
      have hb5 : Later w w5 := hb4.grown hg5 hb4.size hq7w
      have hrd5 : Rd w5 D T := by
        rw [HAT.out]
        exact Rd.take ((hrd.later hL4).grown_rf (k73.later hL4) hg5) f
      have hTl : T.length = f := by rw [HAT.out, List.length_take]; omega
      have hSl : S.length = dl.length - f := by rw [HRE.out, List.length_drop]
      have hmv : RefV A l (.agg (rfV D2 (dl.length - f) (c2 - f) false)) S false := ⟨D2, c2 - f, by rw [hSl], by rw [hSl]; omega, by omega, fun X h => by rw [HRE.out]; exact hD2 X (HD.out X h)⟩
      have HMV := Lib.hid hmv
      have HST := Lib.hid hTl
      clear hst hg5 hb4 hmv hld7 k23 hL4 hTl hSl hD2 hrd hr3
      go_upto_region 7 with fail
      refine (wpIn_wide (n := 0)).1 ?_
      refine wpIn_region_pivot wide_wide 3 [.agg (rfV D2 (dl.length - f) (c2 - f) false), .slice D f c2, .string ⟨T.toArray⟩, undef, .string ⟨T.toArray⟩] (fun W => Later w5 W) (fun y W => Later w W ∧ Row W q7 34 (rfV D2 (dl.length - f) (c2 - f) false) ∧ Row W (q + 1) 34 (rfV D2 (dl.length - f) (c2 - f) false) ∧ Rd W D T) (fun W W' h k => k.step h) (fun y W W' h k => ⟨k.1.step h, k.2.1.later h, k.2.2.1.later h, k.2.2.2.later h⟩) (Later.refl _) (by kernel_rfl) (by kernel_rfl) (by kernel_rfl) (by kernel_rfl) (by kernel_rfl) (by kernel_rfl) rfl (by kernel_rfl) (by kernel_rfl) ⟨?_, ?_, ?_, ?_, ?_, trivial⟩ ?_
      · exact fun ac W dd xx he => stepOk_want rfl (op_load rfl (he.keep (.tmp 7) (by kernel_rfl)) (loadRf (he.both (C := fun W => Row W q7 34 (rfV D2 (dl.length - f) (c2 - f) false)) (fun W h => k75.later h) (fun y W h => h.2.1))) rfl)
      · exact fun ac W dd xx he => stepOk_want rfl (op_move rfl (he.keep (.tmp 10) (by kernel_rfl)))
      · exact fun ac W dd xx he => stepOk_want rfl (op_convert rfl (show ac.eval (.tmp 36) = .slice D f c2 from he.val 1 36 (by kernel_rfl) rfl rfl) (run_string_rd (P := Try.prog) W 22 9 5 D f c2 T Try.underlying22 Try.underlying5 Try.underlying9 HST.out (he.both (C := fun W => Rd W D T) (fun W h => hrd5.later h) (fun y W h => h.2.2.2))) (Later.refl _) rfl)
      · intro ac W he hA; refine ⟨rfl, ?_⟩; have e4 := (he.keep (.tmp 4) (by kernel_rfl)); have e35 := (show ac.eval (.tmp 35) = .agg (rfV D2 (dl.length - f) (c2 - f) false) from he.val 0 35 (by kernel_rfl) rfl rfl); obtain ⟨W', hst, hrow', hg'⟩ := storeRf (A' := D2) (n' := dl.length - f) (c' := c2 - f) (bad' := false) (k45.later hA); exact op_storeK rfl e4 e35 hst ⟨_, rfl, (hb5.step hA).grown hg' (hb5.step hA).size hqw, (k75.later hA).grown hg' (fun e => h47 (Option.some.inj e)), hrow', (hrd5.later hA).grown_rf (k45.later hA) hg'⟩
      · exact fun ac W dd xx he => stepOk_want rfl (op_assign rfl (show ac.eval (.tmp 37) = .string ⟨T.toArray⟩ from he.val 2 37 (by kernel_rfl) rfl rfl))
      · intro xs W y hB hx hk hg
        refine last_assign (vx := .int .i64 0) rfl rfl ?_
        have e4 := hx 4 (by decide)
        obtain ⟨hB1, _, hB3, _⟩ := hB
        clear hx hk hg
        simp only [initL, lastL, putL, Nat.reduceAdd, Act.put, List.setIfInBounds_toArray, List.set_cons_succ, List.set_cons_zero]
        rw [e4]
        go_wp2_with fail
        exact bodyPost_ret (results_cell_tmp2 rfl _ _ (q + 1) 34 (rfV D2 (dl.length - f) (c2 - f) false) (0, 0) _ (.string ⟨T.toArray⟩) (.int .i64 0) rfl rfl rfl hB3 Try.underlying34 rfl infoRf) rfl (HΦ.out _ _ ⟨hB1, _, rfl, HMV.out⟩)
    · rw [if_neg (by simpa using hf)] at HΦ
      go_upto_region 5 with (first
        | (refine wpList_load rfl 34 (.tmp 7) rfl (.pointer (some ⟨q7, 0, none⟩)) rfl hld7 ?_)
        | (go_at_call 69; refine htk.mono ?_; clear htk; rintro e w4 ⟨hL4, ⟨_, h, _⟩ | ⟨_, rfl⟩⟩; exact absurd h hf; obtain ⟨w5, hst, k75, hg5⟩ := storeRf (A' := D) (n' := dl.length) (c' := c2) (bad' := true) (k73.later hL4))
        | (refine wpList_store rfl 34 (.tmp 7) (.tmp 26) rfl (.pointer (some ⟨q7, 0, none⟩)) (.agg (rfV D dl.length c2 true)) rfl rfl hst ?_)
        | fail)
      have k45 := (k43.later hL4).grown hg5 (fun e => h47 (Option.some.inj e).symm)
      have k25 := (k23.later hL4).grown hg5 (fun e => h27 (Option.some.inj e))
      have c25 : w5.cell? ⟨q, 0, none⟩ = some (.slice A n c) := (k25.cell 0).trans rfl
      have hb4 := hb3.step hL4
      have hb5 : Later w w5 := hb4.grown hg5 hb4.size hq7w
      obtain ⟨w6, hst6, k46, hg6⟩ := storeRf (A' := A) (n' := n) (c' := c) (bad' := true) k45
      have hb6 := hb5.grown hg6 hb5.size hqw
      have H6 := Lib.hid hb6
      clear hst hg5 hg6 hb4 hb5 hb6
      go_wp2_with (first
        | (refine wpList_store rfl 34 (.tmp 4) (.tmp 33) rfl (.pointer (some ⟨q + 1, 0, none⟩)) (.agg (rfV A n c true)) rfl rfl hst6 ?_)
        | fail)
      exact bodyPost_ret (results_cell_tmp2 rfl _ _ (q + 1) 34 (rfV A n c true) (0, 0) _ (.string ⟨#[]⟩) (.int .i64 140) rfl rfl rfl k46 Try.underlying34 rfl infoRf) rfl (HΦ.out _ _ ⟨H6.out, _, rfl, A, c, by rw [← HN.out], by rw [← HN.out] at hc; exact hc, by omega, fun _ h => h⟩)
  · have e1 := HNO.out h0
    rw [e1] at HΦ
    obtain ⟨w4, hst4, k44, hg4⟩ := storeRf (A' := D) (n' := l'.length) (c' := c2) (bad' := bad') k43
    have hb4 := hb3.grown hg4 hb3.size hqw
    have H4 := Lib.hid hb4
    have hd : (no == 0) = false := by simpa using h0
    clear hg4 hb4 e1
    go_wp2_with (first
      | (refine wpList_load rfl 34 (.tmp 7) rfl (.pointer (some ⟨q7, 0, none⟩)) rfl hld7 ?_)
      | (refine wpList_store rfl 34 (.tmp 4) (.tmp 20) rfl (.pointer (some ⟨q + 1, 0, none⟩)) (.agg (rfV D l'.length c2 bad')) rfl rfl hst4 ?_)
      | fail)
    exact bodyPost_ret (results_cell_tmp2 rfl _ _ (q + 1) 34 (rfV D l'.length c2 bad') (0, 0) _ (.string ⟨#[]⟩) (.int .i64 no) rfl rfl rfl k44 Try.underlying34 rfl infoRf) rfl (HΦ.out _ _ ⟨H4.out, _, rfl, D, c2, rfl, hcc, hcm2, hD⟩)
end Go.Proofs.Ytmipaacobioakaa
