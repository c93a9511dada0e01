/- Walks, msgs: the document's Body. -/
import Derived.Test.YtcajhdmppfiaeaaGreatGl10
set_option linter.unusedVariables false
set_option linter.unusedSimpArgs false
namespace Go.Proofs.YtcajhdmppfiaeaaGreat
open Go.RowKit Ms
theorem fieldTd {g : Nat} {W : World} : (∀ i o, (i, o) ∈ [(2, 34), (3, 35), (4, 36), (5, 37), (6, 38)] → (Instr.fieldAt 27 (.pointer (some ⟨g, 1, none⟩)) i).run Tryz.prog W = .ok (.pointer (some ⟨g, o, none⟩)) W) := by
  intro i o h
  simp only [List.mem_cons, Prod.mk.injEq, List.not_mem_nil, or_false] at h
  rcases h with ⟨rfl, rfl⟩ | ⟨rfl, rfl⟩ | ⟨rfl, rfl⟩ | ⟨rfl, rfl⟩ | ⟨rfl, rfl⟩
  all_goals go_simp
theorem idxK38 {g : Nat} {W : World} : (Instr.indexAt 25 (.pointer (some ⟨g, 38, none⟩)) (.int .i64 0)).run Tryz.prog W = .ok (.pointer (some ⟨g, 38, none⟩)) W := by
  go_simp
set_option maxRecDepth 100000 in
set_option maxHeartbeats 4000000 in
theorem rbody1 (s : Said) (hs : s.wf) (hk : s.kind = 1) (h512 : s.route.length ≤ 512) (hok : ∀ f ∈ flds s.kind, layOk s f) (w : World) : Calls Tryz.prog 14 #[.agg (saidC s)] w fun e w' => ∃ v, e = .returned v ∧ Own 5 w' w.heap.size v (body s) ∧ Below w.heap.size w w' := by
  have k1 := Row.new w 29 (saidC s)
  have hb := below_new w (.cells (saidC s) 29)
  have hbx := boxSaid hs w
  have hz : w.heap.size + 1 ≤ (w.alloc (.cells (saidC s) 29)).heap.size := k1.lt
  go_enter Tryz.func14, Tryz.ntmps14
  go_upto_region 1 with fail
  obtain ⟨g, hg⟩ : ∃ q, q = w.heap.size := ⟨_, rfl⟩
  rw [← hg] at k1 hz ⊢
  have HG := Lib.hid hg
  clear hbx hg
  generalize w.alloc (.cells (saidC s) 29) = w1 at *
  have c0 : w1.cell? ⟨g, 0, none⟩ = some (.int .i64 (1)) := (k1.cell 0).trans ((saidC_kind hs).trans (by rw [hk]))
  have hnum := refNumA_any (.slice none 0 0) [] (g + 1) (((1) : Int).toNat) w1 (Own.nil _ _ _) hz (by decide) (by decide)
  go_upto_region 2 with (first
    | (go_at_call 36; refine hnum.mono ?_; clear hnum; rintro e w2 ⟨v0, rfl, hown0, hb2⟩)
    | fail)
  clear c0
  have k2 := k1.below (hb2.mono (Nat.le_refl _)) (Nat.lt_succ_self g)
  have hA0 : BA w1 g s v0 0 [] w2 := ⟨hb2, k2, by rw [hk]; exact hown0, Nat.le_trans hz hb2.size⟩
  have c0 : w2.cell? ⟨g, 0, none⟩ = some (.int .i64 (1)) := (k2.cell 0).trans ((saidC_kind hs).trans (by rw [hk]))
  clear k1 k2 hown0 hb2
  go_upto_region 4 with fail
  refine (wpIn_wide (n := 0)).1 ?_
  refine wpIn_region_cv wide_wide [v0, .pointer (some ⟨g, 1, none⟩), .pointer (some ⟨g, offN 1, none⟩), .int .i64 (s.n 1), undef, .pointer (some ⟨g, 1, none⟩), .pointer (some ⟨g, offN 2, none⟩), .int .i64 (s.n 2), undef, .pointer (some ⟨g, 1, none⟩), .pointer (some ⟨g, offN 3, none⟩), .int .i64 (s.n 3), undef, .pointer (some ⟨g, 1, none⟩), .pointer (some ⟨g, offN 4, none⟩), .int .i64 (s.n 4), undef, .pointer (some ⟨g, 1, none⟩), .pointer (some ⟨g, offH 1, none⟩), .pointer (some ⟨g, offH 1, none⟩), .agg (hC (s.h 1)), undef] [4, 8, 12, 16, 21] (BA w1 g s v0 0) (fun rs W W' hL h => h.later hL) hA0 (by kernel_rfl) (by kernel_rfl) (by kernel_rfl) (by kernel_rfl) (by kernel_rfl) (by kernel_rfl) rfl (by decide) rfl ⟨?_, ?_, ?_, ?_, ?_, ?_, ?_, ?_, ?_, ?_, ?_, ?_, ?_, ?_, ?_, ?_, ?_, ?_, ?_, ?_, ?_, ?_, trivial⟩ ?_
  · exact cvStep_val rfl (fun ac W rs he hA => stepOk_want rfl (op_move rfl (he.keep (.tmp 3) (by kernel_rfl))))
  · exact cvStep_val rfl (fun ac W rs he hA => stepOk_want rfl (op_fieldAddr rfl (he.keep (.tmp 1) (by kernel_rfl)) (fieldSd 1 1 (by decide)) rfl))
  · exact cvStep_val rfl (fun ac W rs he hA => stepOk_want rfl (op_fieldAddr rfl (show ac.eval (.tmp 12) = .pointer (some ⟨g, 1, none⟩) from he.val 1 12 (by kernel_rfl) rfl rfl) (fieldTd 2 34 (by decide)) rfl))
  · exact cvStep_val rfl (fun ac W rs he hA => stepOk_want rfl (op_load rfl (show ac.eval (.tmp 13) = .pointer (some ⟨g, offN 1, none⟩) from he.val 2 13 (by kernel_rfl) rfl rfl) (loadSaidN hs (hA.src) 1 (by decide)) rfl))
  · refine cvStep_put (k := 0) rfl (.inl rfl) (fun ac W rs hlen he hA => ⟨rfl, ?_⟩)
    obtain rfl := List.eq_nil_of_length_eq_zero hlen
    have e0 : ac.eval (.tmp 11) = ([] : List Value).getLastD v0 := he.val 0 11 (by kernel_rfl) rfl rfl
    have e1 : ac.eval (.tmp 14) = .int .i64 (s.n 1) := he.val 3 14 (by kernel_rfl) rfl rfl
    exact op_callFK (vs := #[([] : List Value).getLastD v0, .int .i64 (s.n 1)]) rfl (by simp only [List.map_toArray, List.map_cons, List.map_nil, e0, e1]) (enters_of Tryz.func36 (by kernel_rfl) rfl) ((ba_num hs h512 hok hA 1 1125899906842624 (by rw [hk]; rfl)).mono fun e W' ⟨v, he', hb⟩ => ⟨v, he', v, rfl, hb⟩)
  · exact cvStep_val rfl (fun ac W rs he hA => stepOk_want rfl (op_fieldAddr rfl (he.keep (.tmp 1) (by kernel_rfl)) (fieldSd 1 1 (by decide)) rfl))
  · exact cvStep_val rfl (fun ac W rs he hA => stepOk_want rfl (op_fieldAddr rfl (show ac.eval (.tmp 16) = .pointer (some ⟨g, 1, none⟩) from he.val 5 16 (by kernel_rfl) rfl rfl) (fieldTd 3 35 (by decide)) rfl))
  · exact cvStep_val rfl (fun ac W rs he hA => stepOk_want rfl (op_load rfl (show ac.eval (.tmp 17) = .pointer (some ⟨g, offN 2, none⟩) from he.val 6 17 (by kernel_rfl) rfl rfl) (loadSaidN hs (hA.src) 2 (by decide)) rfl))
  · refine cvStep_put (k := 1) rfl (.inr (by kernel_rfl)) (fun ac W rs hlen he hA => ⟨rfl, ?_⟩)
    have e0 : ac.eval (.tmp 15) = rs.getLastD v0 := (he.res 0 15 (by decide) (by kernel_rfl) rfl).trans (getD_last hlen v0)
    have e1 : ac.eval (.tmp 18) = .int .i64 (s.n 2) := he.val 7 18 (by kernel_rfl) rfl rfl
    exact op_callFK (vs := #[rs.getLastD v0, .int .i64 (s.n 2)]) rfl (by simp only [List.map_toArray, List.map_cons, List.map_nil, e0, e1]) (enters_of Tryz.func36 (by kernel_rfl) rfl) ((ba_num hs h512 hok hA 2 2147483647 (by rw [hlen, hk]; rfl)).mono fun e W' ⟨v, he', hb⟩ => ⟨v, he', v, rfl, hb⟩)
  · exact cvStep_val rfl (fun ac W rs he hA => stepOk_want rfl (op_fieldAddr rfl (he.keep (.tmp 1) (by kernel_rfl)) (fieldSd 1 1 (by decide)) rfl))
  · exact cvStep_val rfl (fun ac W rs he hA => stepOk_want rfl (op_fieldAddr rfl (show ac.eval (.tmp 20) = .pointer (some ⟨g, 1, none⟩) from he.val 9 20 (by kernel_rfl) rfl rfl) (fieldTd 4 36 (by decide)) rfl))
  · exact cvStep_val rfl (fun ac W rs he hA => stepOk_want rfl (op_load rfl (show ac.eval (.tmp 21) = .pointer (some ⟨g, offN 3, none⟩) from he.val 10 21 (by kernel_rfl) rfl rfl) (loadSaidN hs (hA.src) 3 (by decide)) rfl))
  · refine cvStep_put (k := 2) rfl (.inr (by kernel_rfl)) (fun ac W rs hlen he hA => ⟨rfl, ?_⟩)
    have e0 : ac.eval (.tmp 19) = rs.getLastD v0 := (he.res 1 19 (by decide) (by kernel_rfl) rfl).trans (getD_last hlen v0)
    have e1 : ac.eval (.tmp 22) = .int .i64 (s.n 3) := he.val 11 22 (by kernel_rfl) rfl rfl
    exact op_callFK (vs := #[rs.getLastD v0, .int .i64 (s.n 3)]) rfl (by simp only [List.map_toArray, List.map_cons, List.map_nil, e0, e1]) (enters_of Tryz.func36 (by kernel_rfl) rfl) ((ba_num hs h512 hok hA 3 2147483647 (by rw [hlen, hk]; rfl)).mono fun e W' ⟨v, he', hb⟩ => ⟨v, he', v, rfl, hb⟩)
  · exact cvStep_val rfl (fun ac W rs he hA => stepOk_want rfl (op_fieldAddr rfl (he.keep (.tmp 1) (by kernel_rfl)) (fieldSd 1 1 (by decide)) rfl))
  · exact cvStep_val rfl (fun ac W rs he hA => stepOk_want rfl (op_fieldAddr rfl (show ac.eval (.tmp 24) = .pointer (some ⟨g, 1, none⟩) from he.val 13 24 (by kernel_rfl) rfl rfl) (fieldTd 5 37 (by decide)) rfl))
  · exact cvStep_val rfl (fun ac W rs he hA => stepOk_want rfl (op_load rfl (show ac.eval (.tmp 25) = .pointer (some ⟨g, offN 4, none⟩) from he.val 14 25 (by kernel_rfl) rfl rfl) (loadSaidN hs (hA.src) 4 (by decide)) rfl))
  · refine cvStep_put (k := 3) rfl (.inr (by kernel_rfl)) (fun ac W rs hlen he hA => ⟨rfl, ?_⟩)
    have e0 : ac.eval (.tmp 23) = rs.getLastD v0 := (he.res 2 23 (by decide) (by kernel_rfl) rfl).trans (getD_last hlen v0)
    have e1 : ac.eval (.tmp 26) = .int .i64 (s.n 4) := he.val 15 26 (by kernel_rfl) rfl rfl
    exact op_callFK (vs := #[rs.getLastD v0, .int .i64 (s.n 4)]) rfl (by simp only [List.map_toArray, List.map_cons, List.map_nil, e0, e1]) (enters_of Tryz.func36 (by kernel_rfl) rfl) ((ba_num hs h512 hok hA 4 2147483647 (by rw [hlen, hk]; rfl)).mono fun e W' ⟨v, he', hb⟩ => ⟨v, he', v, rfl, hb⟩)
  · exact cvStep_val rfl (fun ac W rs he hA => stepOk_want rfl (op_fieldAddr rfl (he.keep (.tmp 1) (by kernel_rfl)) (fieldSd 1 1 (by decide)) rfl))
  · exact cvStep_val rfl (fun ac W rs he hA => stepOk_want rfl (op_fieldAddr rfl (show ac.eval (.tmp 28) = .pointer (some ⟨g, 1, none⟩) from he.val 17 28 (by kernel_rfl) rfl rfl) (fieldTd 6 38 (by decide)) rfl))
  · exact cvStep_val rfl (fun ac W rs he hA => stepOk_want rfl (op_idx rfl (show ac.eval (.tmp 29) = .pointer (some ⟨g, 38, none⟩) from he.val 18 29 (by kernel_rfl) rfl rfl) rfl idxK38 rfl))
  · exact cvStep_val rfl (fun ac W rs he hA => stepOk_want rfl (op_load rfl (show ac.eval (.tmp 30) = .pointer (some ⟨g, offH 1, none⟩) from he.val 19 30 (by kernel_rfl) rfl rfl) (loadSaidH hs (hA.src) 1 (by decide)) rfl))
  · refine cvStep_put (k := 4) rfl (.inr (by kernel_rfl)) (fun ac W rs hlen he hA => ⟨rfl, ?_⟩)
    have e0 : ac.eval (.tmp 27) = rs.getLastD v0 := (he.res 3 27 (by decide) (by kernel_rfl) rfl).trans (getD_last hlen v0)
    have e1 : ac.eval (.tmp 31) = .agg (hC (s.h 1)) := he.val 20 31 (by kernel_rfl) rfl rfl
    exact op_callFK (vs := #[rs.getLastD v0, .agg (hC (s.h 1))]) rfl (by simp only [List.map_toArray, List.map_cons, List.map_nil, e0, e1]) (enters_of Tryz.func37 (by kernel_rfl) rfl) ((ba_hash hs h512 hA 1 (by decide) (by rw [hlen, hk]; rfl)).mono fun e W' ⟨v, he', hb⟩ => ⟨v, he', v, rfl, hb⟩)
  intro xs W hA hx hk2 hgt
  have hA : BA w1 g s v0 0 [xs 4, xs 8, xs 12, xs 16, xs 21] W := hA
  refine last_assign rfl (hgt 21 32 (by decide) (by kernel_rfl)) ?_
  clear hx hk2 hgt hA0
  simp only [initL, lastL, putL, Nat.reduceAdd, Act.put, List.setIfInBounds_toArray, List.set_cons_succ, List.set_cons_zero]
  have hA0 : BA w1 g s (xs 21) 5 [] W := ⟨hA.low, hA.src, hA.own, hA.sz⟩
  clear hA
  generalize xs 21 = v0 at *
  go_upto_region 5 with fail
  refine (wpIn_wide (n := 0)).1 ?_
  refine wpIn_region_cv wide_wide [v0, .pointer (some ⟨g, offN 5, none⟩), .int .i64 (s.n 5), undef, .pointer (some ⟨g, offN 6, none⟩), .int .i64 (s.n 6), undef, .pointer (some ⟨g, offH 3, none⟩), .agg (hC (s.h 3)), undef, .pointer (some ⟨g, offH 4, none⟩), .agg (hC (s.h 4)), undef] [3, 6, 9, 12] (BA w1 g s v0 5) (fun rs W W' hL h => h.later hL) hA0 (by kernel_rfl) (by kernel_rfl) (by kernel_rfl) (by kernel_rfl) (by kernel_rfl) (by kernel_rfl) rfl (by decide) rfl ⟨?_, ?_, ?_, ?_, ?_, ?_, ?_, ?_, ?_, ?_, ?_, ?_, ?_, trivial⟩ ?_
  · exact cvStep_val rfl (fun ac W rs he hA => stepOk_want rfl (op_move rfl (he.keep (.tmp 3) (by kernel_rfl))))
  · exact cvStep_val rfl (fun ac W rs he hA => stepOk_want rfl (op_fieldAddr rfl (he.keep (.tmp 1) (by kernel_rfl)) (fieldSd 2 102 (by decide)) rfl))
  · exact cvStep_val rfl (fun ac W rs he hA => stepOk_want rfl (op_load rfl (show ac.eval (.tmp 34) = .pointer (some ⟨g, offN 5, none⟩) from he.val 1 34 (by kernel_rfl) rfl rfl) (loadSaidN hs (hA.src) 5 (by decide)) rfl))
  · refine cvStep_put (k := 0) rfl (.inl rfl) (fun ac W rs hlen he hA => ⟨rfl, ?_⟩)
    obtain rfl := List.eq_nil_of_length_eq_zero hlen
    have e0 : ac.eval (.tmp 33) = ([] : List Value).getLastD v0 := he.val 0 33 (by kernel_rfl) rfl rfl
    have e1 : ac.eval (.tmp 35) = .int .i64 (s.n 5) := he.val 2 35 (by kernel_rfl) rfl rfl
    exact op_callFK (vs := #[([] : List Value).getLastD v0, .int .i64 (s.n 5)]) rfl (by simp only [List.map_toArray, List.map_cons, List.map_nil, e0, e1]) (enters_of Tryz.func36 (by kernel_rfl) rfl) ((ba_num hs h512 hok hA 5 1125899906842624 (by rw [hk]; rfl)).mono fun e W' ⟨v, he', hb⟩ => ⟨v, he', v, rfl, hb⟩)
  · exact cvStep_val rfl (fun ac W rs he hA => stepOk_want rfl (op_fieldAddr rfl (he.keep (.tmp 1) (by kernel_rfl)) (fieldSd 3 103 (by decide)) rfl))
  · exact cvStep_val rfl (fun ac W rs he hA => stepOk_want rfl (op_load rfl (show ac.eval (.tmp 37) = .pointer (some ⟨g, offN 6, none⟩) from he.val 4 37 (by kernel_rfl) rfl rfl) (loadSaidN hs (hA.src) 6 (by decide)) rfl))
  · refine cvStep_put (k := 1) rfl (.inr (by kernel_rfl)) (fun ac W rs hlen he hA => ⟨rfl, ?_⟩)
    have e0 : ac.eval (.tmp 36) = rs.getLastD v0 := (he.res 0 36 (by decide) (by kernel_rfl) rfl).trans (getD_last hlen v0)
    have e1 : ac.eval (.tmp 38) = .int .i64 (s.n 6) := he.val 5 38 (by kernel_rfl) rfl rfl
    exact op_callFK (vs := #[rs.getLastD v0, .int .i64 (s.n 6)]) rfl (by simp only [List.map_toArray, List.map_cons, List.map_nil, e0, e1]) (enters_of Tryz.func36 (by kernel_rfl) rfl) ((ba_num hs h512 hok hA 6 1125899906842624 (by rw [hlen, hk]; rfl)).mono fun e W' ⟨v, he', hb⟩ => ⟨v, he', v, rfl, hb⟩)
  · exact cvStep_val rfl (fun ac W rs he hA => stepOk_want rfl (op_fieldAddr rfl (he.keep (.tmp 1) (by kernel_rfl)) (fieldSd 4 104 (by decide)) rfl))
  · exact cvStep_val rfl (fun ac W rs he hA => stepOk_want rfl (op_load rfl (show ac.eval (.tmp 40) = .pointer (some ⟨g, offH 3, none⟩) from he.val 7 40 (by kernel_rfl) rfl rfl) (loadSaidH hs (hA.src) 3 (by decide)) rfl))
  · refine cvStep_put (k := 2) rfl (.inr (by kernel_rfl)) (fun ac W rs hlen he hA => ⟨rfl, ?_⟩)
    have e0 : ac.eval (.tmp 39) = rs.getLastD v0 := (he.res 1 39 (by decide) (by kernel_rfl) rfl).trans (getD_last hlen v0)
    have e1 : ac.eval (.tmp 41) = .agg (hC (s.h 3)) := he.val 8 41 (by kernel_rfl) rfl rfl
    exact op_callFK (vs := #[rs.getLastD v0, .agg (hC (s.h 3))]) rfl (by simp only [List.map_toArray, List.map_cons, List.map_nil, e0, e1]) (enters_of Tryz.func37 (by kernel_rfl) rfl) ((ba_hash hs h512 hA 3 (by decide) (by rw [hlen, hk]; rfl)).mono fun e W' ⟨v, he', hb⟩ => ⟨v, he', v, rfl, hb⟩)
  · exact cvStep_val rfl (fun ac W rs he hA => stepOk_want rfl (op_fieldAddr rfl (he.keep (.tmp 1) (by kernel_rfl)) (fieldSd 5 136 (by decide)) rfl))
  · exact cvStep_val rfl (fun ac W rs he hA => stepOk_want rfl (op_load rfl (show ac.eval (.tmp 43) = .pointer (some ⟨g, offH 4, none⟩) from he.val 10 43 (by kernel_rfl) rfl rfl) (loadSaidH hs (hA.src) 4 (by decide)) rfl))
  · refine cvStep_put (k := 3) rfl (.inr (by kernel_rfl)) (fun ac W rs hlen he hA => ⟨rfl, ?_⟩)
    have e0 : ac.eval (.tmp 42) = rs.getLastD v0 := (he.res 2 42 (by decide) (by kernel_rfl) rfl).trans (getD_last hlen v0)
    have e1 : ac.eval (.tmp 44) = .agg (hC (s.h 4)) := he.val 11 44 (by kernel_rfl) rfl rfl
    exact op_callFK (vs := #[rs.getLastD v0, .agg (hC (s.h 4))]) rfl (by simp only [List.map_toArray, List.map_cons, List.map_nil, e0, e1]) (enters_of Tryz.func37 (by kernel_rfl) rfl) ((ba_hash hs h512 hA 4 (by decide) (by rw [hlen, hk]; rfl)).mono fun e W' ⟨v, he', hb⟩ => ⟨v, he', v, rfl, hb⟩)
  intro ys W hA hx hk2 hgt
  have hA : BA w1 g s v0 5 [ys 3, ys 6, ys 9, ys 12] W := hA
  refine last_assign rfl (hgt 12 45 (by decide) (by kernel_rfl)) ?_
  clear hx hk2 hgt hA0
  simp only [initL, lastL, putL, Nat.reduceAdd, Act.put, List.setIfInBounds_toArray, List.set_cons_succ, List.set_cons_zero]
  go_wp2_with fail
  go_ret
  refine ⟨_, rfl, ?_, ?_⟩
  · have h1 := hA.own.mono (Nat.le_succ g)
    have h2 := HG.out
    subst h2
    unfold body
    rw [show ∀ n, n = (flds s.kind).length → (flds s.kind).take n = flds s.kind from fun n e => by rw [e, List.take_length]] at h1
    · exact h1
    · rw [hk]; rfl
  · have h2 := HG.out
    subst h2
    exact hb.trans (hA.low.mono (Nat.le_succ _))
set_option maxRecDepth 100000 in
set_option maxHeartbeats 4000000 in
theorem rbody2 (s : Said) (hs : s.wf) (hk : s.kind = 2) (h512 : s.route.length ≤ 512) (hok : ∀ f ∈ flds s.kind, layOk s f) (w : World) : Calls Tryz.prog 14 #[.agg (saidC s)] w fun e w' => ∃ v, e = .returned v ∧ Own 5 w' w.heap.size v (body s) ∧ Below w.heap.size w w' := by
  have k1 := Row.new w 29 (saidC s)
  have hb := below_new w (.cells (saidC s) 29)
  have hbx := boxSaid hs w
  have hz : w.heap.size + 1 ≤ (w.alloc (.cells (saidC s) 29)).heap.size := k1.lt
  go_enter Tryz.func14, Tryz.ntmps14
  go_upto_region 1 with fail
  obtain ⟨g, hg⟩ : ∃ q, q = w.heap.size := ⟨_, rfl⟩
  rw [← hg] at k1 hz ⊢
  have HG := Lib.hid hg
  clear hbx hg
  generalize w.alloc (.cells (saidC s) 29) = w1 at *
  have c0 : w1.cell? ⟨g, 0, none⟩ = some (.int .i64 (2)) := (k1.cell 0).trans ((saidC_kind hs).trans (by rw [hk]))
  have hnum := refNumA_any (.slice none 0 0) [] (g + 1) (((2) : Int).toNat) w1 (Own.nil _ _ _) hz (by decide) (by decide)
  go_upto_region 2 with (first
    | (go_at_call 36; refine hnum.mono ?_; clear hnum; rintro e w2 ⟨v0, rfl, hown0, hb2⟩)
    | fail)
  clear c0
  have k2 := k1.below (hb2.mono (Nat.le_refl _)) (Nat.lt_succ_self g)
  have hA0 : BA w1 g s v0 0 [] w2 := ⟨hb2, k2, by rw [hk]; exact hown0, Nat.le_trans hz hb2.size⟩
  have c0 : w2.cell? ⟨g, 0, none⟩ = some (.int .i64 (2)) := (k2.cell 0).trans ((saidC_kind hs).trans (by rw [hk]))
  clear k1 k2 hown0 hb2
  go_upto_region 7 with fail
  refine (wpIn_wide (n := 0)).1 ?_
  refine wpIn_region_cv wide_wide [v0, .pointer (some ⟨g, offH 5, none⟩), .agg (hC (s.h 5)), undef, .pointer (some ⟨g, offH 3, none⟩), .agg (hC (s.h 3)), undef, .pointer (some ⟨g, offH 4, none⟩), .agg (hC (s.h 4)), undef] [3, 6, 9] (BA w1 g s v0 0) (fun rs W W' hL h => h.later hL) hA0 (by kernel_rfl) (by kernel_rfl) (by kernel_rfl) (by kernel_rfl) (by kernel_rfl) (by kernel_rfl) rfl (by decide) rfl ⟨?_, ?_, ?_, ?_, ?_, ?_, ?_, ?_, ?_, ?_, trivial⟩ ?_
  · exact cvStep_val rfl (fun ac W rs he hA => stepOk_want rfl (op_move rfl (he.keep (.tmp 3) (by kernel_rfl))))
  · exact cvStep_val rfl (fun ac W rs he hA => stepOk_want rfl (op_fieldAddr rfl (he.keep (.tmp 1) (by kernel_rfl)) (fieldSd 6 168 (by decide)) rfl))
  · exact cvStep_val rfl (fun ac W rs he hA => stepOk_want rfl (op_load rfl (show ac.eval (.tmp 49) = .pointer (some ⟨g, offH 5, none⟩) from he.val 1 49 (by kernel_rfl) rfl rfl) (loadSaidH hs (hA.src) 5 (by decide)) rfl))
  · refine cvStep_put (k := 0) rfl (.inl rfl) (fun ac W rs hlen he hA => ⟨rfl, ?_⟩)
    obtain rfl := List.eq_nil_of_length_eq_zero hlen
    have e0 : ac.eval (.tmp 48) = ([] : List Value).getLastD v0 := he.val 0 48 (by kernel_rfl) rfl rfl
    have e1 : ac.eval (.tmp 50) = .agg (hC (s.h 5)) := he.val 2 50 (by kernel_rfl) rfl rfl
    exact op_callFK (vs := #[([] : List Value).getLastD v0, .agg (hC (s.h 5))]) rfl (by simp only [List.map_toArray, List.map_cons, List.map_nil, e0, e1]) (enters_of Tryz.func37 (by kernel_rfl) rfl) ((ba_hash hs h512 hA 5 (by decide) (by rw [hk]; rfl)).mono fun e W' ⟨v, he', hb⟩ => ⟨v, he', v, rfl, hb⟩)
  · exact cvStep_val rfl (fun ac W rs he hA => stepOk_want rfl (op_fieldAddr rfl (he.keep (.tmp 1) (by kernel_rfl)) (fieldSd 4 104 (by decide)) rfl))
  · exact cvStep_val rfl (fun ac W rs he hA => stepOk_want rfl (op_load rfl (show ac.eval (.tmp 52) = .pointer (some ⟨g, offH 3, none⟩) from he.val 4 52 (by kernel_rfl) rfl rfl) (loadSaidH hs (hA.src) 3 (by decide)) rfl))
  · refine cvStep_put (k := 1) rfl (.inr (by kernel_rfl)) (fun ac W rs hlen he hA => ⟨rfl, ?_⟩)
    have e0 : ac.eval (.tmp 51) = rs.getLastD v0 := (he.res 0 51 (by decide) (by kernel_rfl) rfl).trans (getD_last hlen v0)
    have e1 : ac.eval (.tmp 53) = .agg (hC (s.h 3)) := he.val 5 53 (by kernel_rfl) rfl rfl
    exact op_callFK (vs := #[rs.getLastD v0, .agg (hC (s.h 3))]) rfl (by simp only [List.map_toArray, List.map_cons, List.map_nil, e0, e1]) (enters_of Tryz.func37 (by kernel_rfl) rfl) ((ba_hash hs h512 hA 3 (by decide) (by rw [hlen, hk]; rfl)).mono fun e W' ⟨v, he', hb⟩ => ⟨v, he', v, rfl, hb⟩)
  · exact cvStep_val rfl (fun ac W rs he hA => stepOk_want rfl (op_fieldAddr rfl (he.keep (.tmp 1) (by kernel_rfl)) (fieldSd 5 136 (by decide)) rfl))
  · exact cvStep_val rfl (fun ac W rs he hA => stepOk_want rfl (op_load rfl (show ac.eval (.tmp 55) = .pointer (some ⟨g, offH 4, none⟩) from he.val 7 55 (by kernel_rfl) rfl rfl) (loadSaidH hs (hA.src) 4 (by decide)) rfl))
  · refine cvStep_put (k := 2) rfl (.inr (by kernel_rfl)) (fun ac W rs hlen he hA => ⟨rfl, ?_⟩)
    have e0 : ac.eval (.tmp 54) = rs.getLastD v0 := (he.res 1 54 (by decide) (by kernel_rfl) rfl).trans (getD_last hlen v0)
    have e1 : ac.eval (.tmp 56) = .agg (hC (s.h 4)) := he.val 8 56 (by kernel_rfl) rfl rfl
    exact op_callFK (vs := #[rs.getLastD v0, .agg (hC (s.h 4))]) rfl (by simp only [List.map_toArray, List.map_cons, List.map_nil, e0, e1]) (enters_of Tryz.func37 (by kernel_rfl) rfl) ((ba_hash hs h512 hA 4 (by decide) (by rw [hlen, hk]; rfl)).mono fun e W' ⟨v, he', hb⟩ => ⟨v, he', v, rfl, hb⟩)
  intro xs W hA hx hk2 hgt
  have hA : BA w1 g s v0 0 [xs 3, xs 6, xs 9] W := hA
  refine last_assign rfl (hgt 9 57 (by decide) (by kernel_rfl)) ?_
  clear hx hk2 hgt hA0
  simp only [initL, lastL, putL, Nat.reduceAdd, Act.put, List.setIfInBounds_toArray, List.set_cons_succ, List.set_cons_zero]
  go_wp2_with fail
  go_ret
  refine ⟨_, rfl, ?_, ?_⟩
  · have h1 := hA.own.mono (Nat.le_succ g)
    have h2 := HG.out
    subst h2
    unfold body
    rw [show ∀ n, n = (flds s.kind).length → (flds s.kind).take n = flds s.kind from fun n e => by rw [e, List.take_length]] at h1
    · exact h1
    · rw [hk]; rfl
  · have h2 := HG.out
    subst h2
    exact hb.trans (hA.low.mono (Nat.le_succ _))
set_option maxRecDepth 100000 in
set_option maxHeartbeats 4000000 in
theorem rbody3 (s : Said) (hs : s.wf) (hk : s.kind = 3) (h512 : s.route.length ≤ 512) (hok : ∀ f ∈ flds s.kind, layOk s f) (w : World) : Calls Tryz.prog 14 #[.agg (saidC s)] w fun e w' => ∃ v, e = .returned v ∧ Own 5 w' w.heap.size v (body s) ∧ Below w.heap.size w w' := by
  have k1 := Row.new w 29 (saidC s)
  have hb := below_new w (.cells (saidC s) 29)
  have hbx := boxSaid hs w
  have hz : w.heap.size + 1 ≤ (w.alloc (.cells (saidC s) 29)).heap.size := k1.lt
  go_enter Tryz.func14, Tryz.ntmps14
  go_upto_region 1 with fail
  obtain ⟨g, hg⟩ : ∃ q, q = w.heap.size := ⟨_, rfl⟩
  rw [← hg] at k1 hz ⊢
  have HG := Lib.hid hg
  clear hbx hg
  generalize w.alloc (.cells (saidC s) 29) = w1 at *
  have c0 : w1.cell? ⟨g, 0, none⟩ = some (.int .i64 (3)) := (k1.cell 0).trans ((saidC_kind hs).trans (by rw [hk]))
  have hnum := refNumA_any (.slice none 0 0) [] (g + 1) (((3) : Int).toNat) w1 (Own.nil _ _ _) hz (by decide) (by decide)
  go_upto_region 2 with (first
    | (go_at_call 36; refine hnum.mono ?_; clear hnum; rintro e w2 ⟨v0, rfl, hown0, hb2⟩)
    | fail)
  clear c0
  have k2 := k1.below (hb2.mono (Nat.le_refl _)) (Nat.lt_succ_self g)
  have hA0 : BA w1 g s v0 0 [] w2 := ⟨hb2, k2, by rw [hk]; exact hown0, Nat.le_trans hz hb2.size⟩
  have c0 : w2.cell? ⟨g, 0, none⟩ = some (.int .i64 (3)) := (k2.cell 0).trans ((saidC_kind hs).trans (by rw [hk]))
  clear k1 k2 hown0 hb2
  go_upto_region 9 with fail
  refine (wpIn_wide (n := 0)).1 ?_
  refine wpIn_region_cv wide_wide [v0, .pointer (some ⟨g, offH 6, none⟩), .agg (hC (s.h 6)), undef, .pointer (some ⟨g, offN 9, none⟩), .int .i64 (s.n 9), undef, .pointer (some ⟨g, offH 7, none⟩), .agg (hC (s.h 7)), undef] [3, 6, 9] (BA w1 g s v0 0) (fun rs W W' hL h => h.later hL) hA0 (by kernel_rfl) (by kernel_rfl) (by kernel_rfl) (by kernel_rfl) (by kernel_rfl) (by kernel_rfl) rfl (by decide) rfl ⟨?_, ?_, ?_, ?_, ?_, ?_, ?_, ?_, ?_, ?_, trivial⟩ ?_
  · exact cvStep_val rfl (fun ac W rs he hA => stepOk_want rfl (op_move rfl (he.keep (.tmp 3) (by kernel_rfl))))
  · exact cvStep_val rfl (fun ac W rs he hA => stepOk_want rfl (op_fieldAddr rfl (he.keep (.tmp 1) (by kernel_rfl)) (fieldSd 7 200 (by decide)) rfl))
  · exact cvStep_val rfl (fun ac W rs he hA => stepOk_want rfl (op_load rfl (show ac.eval (.tmp 61) = .pointer (some ⟨g, offH 6, none⟩) from he.val 1 61 (by kernel_rfl) rfl rfl) (loadSaidH hs (hA.src) 6 (by decide)) rfl))
  · refine cvStep_put (k := 0) rfl (.inl rfl) (fun ac W rs hlen he hA => ⟨rfl, ?_⟩)
    obtain rfl := List.eq_nil_of_length_eq_zero hlen
    have e0 : ac.eval (.tmp 60) = ([] : List Value).getLastD v0 := he.val 0 60 (by kernel_rfl) rfl rfl
    have e1 : ac.eval (.tmp 62) = .agg (hC (s.h 6)) := he.val 2 62 (by kernel_rfl) rfl rfl
    exact op_callFK (vs := #[([] : List Value).getLastD v0, .agg (hC (s.h 6))]) rfl (by simp only [List.map_toArray, List.map_cons, List.map_nil, e0, e1]) (enters_of Tryz.func37 (by kernel_rfl) rfl) ((ba_hash hs h512 hA 6 (by decide) (by rw [hk]; rfl)).mono fun e W' ⟨v, he', hb⟩ => ⟨v, he', v, rfl, hb⟩)
  · exact cvStep_val rfl (fun ac W rs he hA => stepOk_want rfl (op_fieldAddr rfl (he.keep (.tmp 1) (by kernel_rfl)) (fieldSd 12 298 (by decide)) rfl))
  · exact cvStep_val rfl (fun ac W rs he hA => stepOk_want rfl (op_load rfl (show ac.eval (.tmp 64) = .pointer (some ⟨g, offN 9, none⟩) from he.val 4 64 (by kernel_rfl) rfl rfl) (loadSaidN hs (hA.src) 9 (by decide)) rfl))
  · refine cvStep_put (k := 1) rfl (.inr (by kernel_rfl)) (fun ac W rs hlen he hA => ⟨rfl, ?_⟩)
    have e0 : ac.eval (.tmp 63) = rs.getLastD v0 := (he.res 0 63 (by decide) (by kernel_rfl) rfl).trans (getD_last hlen v0)
    have e1 : ac.eval (.tmp 65) = .int .i64 (s.n 9) := he.val 5 65 (by kernel_rfl) rfl rfl
    exact op_callFK (vs := #[rs.getLastD v0, .int .i64 (s.n 9)]) rfl (by simp only [List.map_toArray, List.map_cons, List.map_nil, e0, e1]) (enters_of Tryz.func36 (by kernel_rfl) rfl) ((ba_num hs h512 hok hA 9 2147483647 (by rw [hlen, hk]; rfl)).mono fun e W' ⟨v, he', hb⟩ => ⟨v, he', v, rfl, hb⟩)
  · exact cvStep_val rfl (fun ac W rs he hA => stepOk_want rfl (op_fieldAddr rfl (he.keep (.tmp 1) (by kernel_rfl)) (fieldSd 8 232 (by decide)) rfl))
  · exact cvStep_val rfl (fun ac W rs he hA => stepOk_want rfl (op_load rfl (show ac.eval (.tmp 67) = .pointer (some ⟨g, offH 7, none⟩) from he.val 7 67 (by kernel_rfl) rfl rfl) (loadSaidH hs (hA.src) 7 (by decide)) rfl))
  · refine cvStep_put (k := 2) rfl (.inr (by kernel_rfl)) (fun ac W rs hlen he hA => ⟨rfl, ?_⟩)
    have e0 : ac.eval (.tmp 66) = rs.getLastD v0 := (he.res 1 66 (by decide) (by kernel_rfl) rfl).trans (getD_last hlen v0)
    have e1 : ac.eval (.tmp 68) = .agg (hC (s.h 7)) := he.val 8 68 (by kernel_rfl) rfl rfl
    exact op_callFK (vs := #[rs.getLastD v0, .agg (hC (s.h 7))]) rfl (by simp only [List.map_toArray, List.map_cons, List.map_nil, e0, e1]) (enters_of Tryz.func37 (by kernel_rfl) rfl) ((ba_hash hs h512 hA 7 (by decide) (by rw [hlen, hk]; rfl)).mono fun e W' ⟨v, he', hb⟩ => ⟨v, he', v, rfl, hb⟩)
  intro xs W hA hx hk2 hgt
  have hA : BA w1 g s v0 0 [xs 3, xs 6, xs 9] W := hA
  refine last_assign rfl (hgt 9 69 (by decide) (by kernel_rfl)) ?_
  clear hx hk2 hgt hA0
  simp only [initL, lastL, putL, Nat.reduceAdd, Act.put, List.setIfInBounds_toArray, List.set_cons_succ, List.set_cons_zero]
  go_wp2_with fail
  go_ret
  refine ⟨_, rfl, ?_, ?_⟩
  · have h1 := hA.own.mono (Nat.le_succ g)
    have h2 := HG.out
    subst h2
    unfold body
    rw [show ∀ n, n = (flds s.kind).length → (flds s.kind).take n = flds s.kind from fun n e => by rw [e, List.take_length]] at h1
    · exact h1
    · rw [hk]; rfl
  · have h2 := HG.out
    subst h2
    exact hb.trans (hA.low.mono (Nat.le_succ _))
set_option maxRecDepth 100000 in
set_option maxHeartbeats 4000000 in
theorem rbody4 (s : Said) (hs : s.wf) (hk : s.kind = 4) (h512 : s.route.length ≤ 512) (hok : ∀ f ∈ flds s.kind, layOk s f) (w : World) : Calls Tryz.prog 14 #[.agg (saidC s)] w fun e w' => ∃ v, e = .returned v ∧ Own 5 w' w.heap.size v (body s) ∧ Below w.heap.size w w' := by
  have k1 := Row.new w 29 (saidC s)
  have hb := below_new w (.cells (saidC s) 29)
  have hbx := boxSaid hs w
  have hz : w.heap.size + 1 ≤ (w.alloc (.cells (saidC s) 29)).heap.size := k1.lt
  go_enter Tryz.func14, Tryz.ntmps14
  go_upto_region 1 with fail
  obtain ⟨g, hg⟩ : ∃ q, q = w.heap.size := ⟨_, rfl⟩
  rw [← hg] at k1 hz ⊢
  have HG := Lib.hid hg
  clear hbx hg
  generalize w.alloc (.cells (saidC s) 29) = w1 at *
  have c0 : w1.cell? ⟨g, 0, none⟩ = some (.int .i64 (4)) := (k1.cell 0).trans ((saidC_kind hs).trans (by rw [hk]))
  have hnum := refNumA_any (.slice none 0 0) [] (g + 1) (((4) : Int).toNat) w1 (Own.nil _ _ _) hz (by decide) (by decide)
  go_upto_region 2 with (first
    | (go_at_call 36; refine hnum.mono ?_; clear hnum; rintro e w2 ⟨v0, rfl, hown0, hb2⟩)
    | fail)
  clear c0
  have k2 := k1.below (hb2.mono (Nat.le_refl _)) (Nat.lt_succ_self g)
  have hA0 : BA w1 g s v0 0 [] w2 := ⟨hb2, k2, by rw [hk]; exact hown0, Nat.le_trans hz hb2.size⟩
  have c0 : w2.cell? ⟨g, 0, none⟩ = some (.int .i64 (4)) := (k2.cell 0).trans ((saidC_kind hs).trans (by rw [hk]))
  clear k1 k2 hown0 hb2
  go_upto_region 11 with fail
  have hld := loadSaidH hs hA0.src 7 (by decide)
  have hc := ba_hash hs h512 hA0 7 (by decide) (by rw [hk]; rfl)
  clear hA0
  go_wp2_with (first
    | (guard_target =~ wpList _ _ _ (_ :: _) _ _; refine wpList_load rfl 24 (.tmp 73) rfl (.pointer (some ⟨g, offH 7, none⟩)) rfl hld ?_)
    | (go_at_call 37; refine hc.mono ?_; clear hc; rintro e W ⟨v9, rfl, hA⟩)
    | fail)
  have hA : BA w1 g s v0 0 [v9] W := hA
  go_ret
  refine ⟨_, rfl, ?_, ?_⟩
  · have h1 := hA.own.mono (Nat.le_succ g)
    have h2 := HG.out
    subst h2
    unfold body
    rw [show ∀ n, n = (flds s.kind).length → (flds s.kind).take n = flds s.kind from fun n e => by rw [e, List.take_length]] at h1
    · exact h1
    · rw [hk]; rfl
  · have h2 := HG.out
    subst h2
    exact hb.trans (hA.low.mono (Nat.le_succ _))
set_option maxRecDepth 100000 in
set_option maxHeartbeats 4000000 in
theorem rbody5 (s : Said) (hs : s.wf) (hk : s.kind = 5) (h512 : s.route.length ≤ 512) (hok : ∀ f ∈ flds s.kind, layOk s f) (w : World) : Calls Tryz.prog 14 #[.agg (saidC s)] w fun e w' => ∃ v, e = .returned v ∧ Own 5 w' w.heap.size v (body s) ∧ Below w.heap.size w w' := by
  have k1 := Row.new w 29 (saidC s)
  have hb := below_new w (.cells (saidC s) 29)
  have hbx := boxSaid hs w
  have hz : w.heap.size + 1 ≤ (w.alloc (.cells (saidC s) 29)).heap.size := k1.lt
  go_enter Tryz.func14, Tryz.ntmps14
  go_upto_region 1 with fail
  obtain ⟨g, hg⟩ : ∃ q, q = w.heap.size := ⟨_, rfl⟩
  rw [← hg] at k1 hz ⊢
  have HG := Lib.hid hg
  clear hbx hg
  generalize w.alloc (.cells (saidC s) 29) = w1 at *
  have c0 : w1.cell? ⟨g, 0, none⟩ = some (.int .i64 (5)) := (k1.cell 0).trans ((saidC_kind hs).trans (by rw [hk]))
  have hnum := refNumA_any (.slice none 0 0) [] (g + 1) (((5) : Int).toNat) w1 (Own.nil _ _ _) hz (by decide) (by decide)
  go_upto_region 2 with (first
    | (go_at_call 36; refine hnum.mono ?_; clear hnum; rintro e w2 ⟨v0, rfl, hown0, hb2⟩)
    | fail)
  clear c0
  have k2 := k1.below (hb2.mono (Nat.le_refl _)) (Nat.lt_succ_self g)
  have hA0 : BA w1 g s v0 0 [] w2 := ⟨hb2, k2, by rw [hk]; exact hown0, Nat.le_trans hz hb2.size⟩
  have c0 : w2.cell? ⟨g, 0, none⟩ = some (.int .i64 (5)) := (k2.cell 0).trans ((saidC_kind hs).trans (by rw [hk]))
  clear k1 k2 hown0 hb2
  have hA := hA0
  clear hA0
  go_wp2_with fail
  go_ret
  refine ⟨_, rfl, ?_, ?_⟩
  · have h1 := hA.own.mono (Nat.le_succ g)
    have h2 := HG.out
    subst h2
    unfold body
    rw [show ∀ n, n = (flds s.kind).length → (flds s.kind).take n = flds s.kind from fun n e => by rw [e, List.take_length]] at h1
    · exact h1
    · rw [hk]; rfl
  · have h2 := HG.out
    subst h2
    exact hb.trans (hA.low.mono (Nat.le_succ _))
set_option maxRecDepth 100000 in
set_option maxHeartbeats 4000000 in
theorem rbody6 (s : Said) (hs : s.wf) (hk : s.kind = 6) (h512 : s.route.length ≤ 512) (hok : ∀ f ∈ flds s.kind, layOk s f) (w : World) : Calls Tryz.prog 14 #[.agg (saidC s)] w fun e w' => ∃ v, e = .returned v ∧ Own 5 w' w.heap.size v (body s) ∧ Below w.heap.size w w' := by
  have k1 := Row.new w 29 (saidC s)
  have hb := below_new w (.cells (saidC s) 29)
  have hbx := boxSaid hs w
  have hz : w.heap.size + 1 ≤ (w.alloc (.cells (saidC s) 29)).heap.size := k1.lt
  go_enter Tryz.func14, Tryz.ntmps14
  go_upto_region 1 with fail
  obtain ⟨g, hg⟩ : ∃ q, q = w.heap.size := ⟨_, rfl⟩
  rw [← hg] at k1 hz ⊢
  have HG := Lib.hid hg
  clear hbx hg
  generalize w.alloc (.cells (saidC s) 29) = w1 at *
  have c0 : w1.cell? ⟨g, 0, none⟩ = some (.int .i64 (6)) := (k1.cell 0).trans ((saidC_kind hs).trans (by rw [hk]))
  have hnum := refNumA_any (.slice none 0 0) [] (g + 1) (((6) : Int).toNat) w1 (Own.nil _ _ _) hz (by decide) (by decide)
  go_upto_region 2 with (first
    | (go_at_call 36; refine hnum.mono ?_; clear hnum; rintro e w2 ⟨v0, rfl, hown0, hb2⟩)
    | fail)
  clear c0
  have k2 := k1.below (hb2.mono (Nat.le_refl _)) (Nat.lt_succ_self g)
  have hA0 : BA w1 g s v0 0 [] w2 := ⟨hb2, k2, by rw [hk]; exact hown0, Nat.le_trans hz hb2.size⟩
  have c0 : w2.cell? ⟨g, 0, none⟩ = some (.int .i64 (6)) := (k2.cell 0).trans ((saidC_kind hs).trans (by rw [hk]))
  clear k1 k2 hown0 hb2
  go_upto_region 13 with fail
  refine (wpIn_wide (n := 0)).1 ?_
  refine wpIn_region_cv wide_wide [v0, .pointer (some ⟨g, offN 7, none⟩), .int .i64 (s.n 7), undef, .pointer (some ⟨g, offN 6, none⟩), .int .i64 (s.n 6), undef, .pointer (some ⟨g, offH 6, none⟩), .agg (hC (s.h 6)), undef, .pointer (some ⟨g, offN 10, none⟩), .int .i64 (s.n 10), undef, .pointer (some ⟨g, 301, none⟩), .string ⟨s.route.toArray⟩, undef, undef] [3, 6, 9, 12, 15, 16] (BR w1 g s v0 4) (fun rs W W' hL h => h.later hL) (BR.of hA0 (by decide)) (by kernel_rfl) (by kernel_rfl) (by kernel_rfl) (by kernel_rfl) (by kernel_rfl) (by kernel_rfl) rfl (by decide) rfl ⟨?_, ?_, ?_, ?_, ?_, ?_, ?_, ?_, ?_, ?_, ?_, ?_, ?_, ?_, ?_, ?_, ?_, trivial⟩ ?_
  · exact cvStep_val rfl (fun ac W rs he hA => stepOk_want rfl (op_move rfl (he.keep (.tmp 3) (by kernel_rfl))))
  · exact cvStep_val rfl (fun ac W rs he hA => stepOk_want rfl (op_fieldAddr rfl (he.keep (.tmp 1) (by kernel_rfl)) (fieldSd 10 296 (by decide)) rfl))
  · exact cvStep_val rfl (fun ac W rs he hA => stepOk_want rfl (op_load rfl (show ac.eval (.tmp 79) = .pointer (some ⟨g, offN 7, none⟩) from he.val 1 79 (by kernel_rfl) rfl rfl) (loadSaidN hs (hA.2.2.2) 7 (by decide)) rfl))
  · refine cvStep_put (k := 0) rfl (.inl rfl) (fun ac W rs hlen he hA => ⟨rfl, ?_⟩)
    obtain rfl := List.eq_nil_of_length_eq_zero hlen
    have e0 : ac.eval (.tmp 78) = ([] : List Value).getLastD v0 := he.val 0 78 (by kernel_rfl) rfl rfl
    have e1 : ac.eval (.tmp 80) = .int .i64 (s.n 7) := he.val 2 80 (by kernel_rfl) rfl rfl
    exact op_callFK (vs := #[([] : List Value).getLastD v0, .int .i64 (s.n 7)]) rfl (by simp only [List.map_toArray, List.map_cons, List.map_nil, e0, e1]) (enters_of Tryz.func36 (by kernel_rfl) rfl) ((ba_num hs h512 hok (hA.1 (by omega)) 7 2147483647 (by rw [hk]; rfl)).mono fun e W' ⟨v, he', hb⟩ => ⟨v, he', v, rfl, BR.of hb (by simp only [List.length_append, List.length_singleton, List.length_nil]; omega)⟩)
  · exact cvStep_val rfl (fun ac W rs he hA => stepOk_want rfl (op_fieldAddr rfl (he.keep (.tmp 1) (by kernel_rfl)) (fieldSd 3 103 (by decide)) rfl))
  · exact cvStep_val rfl (fun ac W rs he hA => stepOk_want rfl (op_load rfl (show ac.eval (.tmp 82) = .pointer (some ⟨g, offN 6, none⟩) from he.val 4 82 (by kernel_rfl) rfl rfl) (loadSaidN hs (hA.2.2.2) 6 (by decide)) rfl))
  · refine cvStep_put (k := 1) rfl (.inr (by kernel_rfl)) (fun ac W rs hlen he hA => ⟨rfl, ?_⟩)
    have e0 : ac.eval (.tmp 81) = rs.getLastD v0 := (he.res 0 81 (by decide) (by kernel_rfl) rfl).trans (getD_last hlen v0)
    have e1 : ac.eval (.tmp 83) = .int .i64 (s.n 6) := he.val 5 83 (by kernel_rfl) rfl rfl
    exact op_callFK (vs := #[rs.getLastD v0, .int .i64 (s.n 6)]) rfl (by simp only [List.map_toArray, List.map_cons, List.map_nil, e0, e1]) (enters_of Tryz.func36 (by kernel_rfl) rfl) ((ba_num hs h512 hok (hA.1 (by omega)) 6 1125899906842624 (by rw [hlen, hk]; rfl)).mono fun e W' ⟨v, he', hb⟩ => ⟨v, he', v, rfl, BR.of hb (by simp only [List.length_append, List.length_singleton, List.length_nil]; omega)⟩)
  · exact cvStep_val rfl (fun ac W rs he hA => stepOk_want rfl (op_fieldAddr rfl (he.keep (.tmp 1) (by kernel_rfl)) (fieldSd 7 200 (by decide)) rfl))
  · exact cvStep_val rfl (fun ac W rs he hA => stepOk_want rfl (op_load rfl (show ac.eval (.tmp 85) = .pointer (some ⟨g, offH 6, none⟩) from he.val 7 85 (by kernel_rfl) rfl rfl) (loadSaidH hs (hA.2.2.2) 6 (by decide)) rfl))
  · refine cvStep_put (k := 2) rfl (.inr (by kernel_rfl)) (fun ac W rs hlen he hA => ⟨rfl, ?_⟩)
    have e0 : ac.eval (.tmp 84) = rs.getLastD v0 := (he.res 1 84 (by decide) (by kernel_rfl) rfl).trans (getD_last hlen v0)
    have e1 : ac.eval (.tmp 86) = .agg (hC (s.h 6)) := he.val 8 86 (by kernel_rfl) rfl rfl
    exact op_callFK (vs := #[rs.getLastD v0, .agg (hC (s.h 6))]) rfl (by simp only [List.map_toArray, List.map_cons, List.map_nil, e0, e1]) (enters_of Tryz.func37 (by kernel_rfl) rfl) ((ba_hash hs h512 (hA.1 (by omega)) 6 (by decide) (by rw [hlen, hk]; rfl)).mono fun e W' ⟨v, he', hb⟩ => ⟨v, he', v, rfl, BR.of hb (by simp only [List.length_append, List.length_singleton, List.length_nil]; omega)⟩)
  · exact cvStep_val rfl (fun ac W rs he hA => stepOk_want rfl (op_fieldAddr rfl (he.keep (.tmp 1) (by kernel_rfl)) (fieldSd 13 299 (by decide)) rfl))
  · exact cvStep_val rfl (fun ac W rs he hA => stepOk_want rfl (op_load rfl (show ac.eval (.tmp 88) = .pointer (some ⟨g, offN 10, none⟩) from he.val 10 88 (by kernel_rfl) rfl rfl) (loadSaidN hs (hA.2.2.2) 10 (by decide)) rfl))
  · refine cvStep_put (k := 3) rfl (.inr (by kernel_rfl)) (fun ac W rs hlen he hA => ⟨rfl, ?_⟩)
    have e0 : ac.eval (.tmp 87) = rs.getLastD v0 := (he.res 2 87 (by decide) (by kernel_rfl) rfl).trans (getD_last hlen v0)
    have e1 : ac.eval (.tmp 89) = .int .i64 (s.n 10) := he.val 11 89 (by kernel_rfl) rfl rfl
    exact op_callFK (vs := #[rs.getLastD v0, .int .i64 (s.n 10)]) rfl (by simp only [List.map_toArray, List.map_cons, List.map_nil, e0, e1]) (enters_of Tryz.func36 (by kernel_rfl) rfl) ((ba_num hs h512 hok (hA.1 (by omega)) 10 2147483647 (by rw [hlen, hk]; rfl)).mono fun e W' ⟨v, he', hb⟩ => ⟨v, he', v, rfl, BR.of hb (by simp only [List.length_append, List.length_singleton, List.length_nil]; omega)⟩)
  · exact cvStep_val rfl (fun ac W rs he hA => stepOk_want rfl (op_fieldAddr rfl (he.keep (.tmp 1) (by kernel_rfl)) (fieldSd 15 301 (by decide)) rfl))
  · exact cvStep_val rfl (fun ac W rs he hA => stepOk_want rfl (op_load rfl (show ac.eval (.tmp 91) = .pointer (some ⟨g, 301, none⟩) from he.val 13 91 (by kernel_rfl) rfl rfl) (loadSaidR hs (hA.2.2.2)) rfl))
  · refine cvStep_put (k := 4) rfl (.inr (by kernel_rfl)) (fun ac W rs hlen he hA => ⟨rfl, ?_⟩)
    have e1 : ac.eval (.tmp 92) = .string ⟨s.route.toArray⟩ := he.val 14 92 (by kernel_rfl) rfl rfl
    exact op_callFK (vs := #[.string ⟨s.route.toArray⟩]) rfl (by simp only [List.map_toArray, List.map_cons, List.map_nil, e1]) (enters_of Tryz.func38 (by kernel_rfl) rfl) ((br_text h512 hA hlen).mono fun e W' ⟨v, he', hb⟩ => ⟨v, he', v, rfl, hb⟩)
  · refine cvStep_put (k := 5) rfl (.inr (by kernel_rfl)) (fun ac W rs hlen he hA => ⟨rfl, ?_⟩)
    obtain ⟨r0, A, c, rfl, hB, hrd⟩ := hA.2.1 hlen
    have hl0 : r0.length = 4 := by simpa using hlen
    have e0 : ac.eval (.tmp 90) = r0.getLastD v0 := (he.res 3 90 (by decide) (by kernel_rfl) rfl).trans (by rw [List.getD_eq_getElem?_getD, List.getElem?_append_left (by omega), ← List.getD_eq_getElem?_getD]; exact getD_last hl0 v0)
    have e1 : ac.eval (.tmp 93) = .slice A (lay s .route).length c := (he.res 4 93 (by decide) (by kernel_rfl) rfl).trans (by rw [List.getD_eq_getElem?_getD, List.getElem?_append_right (by omega), hl0]; rfl)
    have hl := hB.len hs h512
    have hl2 : (lay s .route).length ≤ 521 := lay_le hs h512 (fun j e => by cases e)
    exact op_append_bytes (.tmp 90) (.tmp 93) 32 rfl (g + 1) 5 Tryz.underlying32 byteInfo _ _ e0 hB.own A _ c _ e1 rfl hrd (by omega) hB.sz (fun v' w' ho hg _ => ⟨v', rfl, fun e => by simp at e; omega, fun e => by simp at e; omega, fun _ => ⟨r0, _, v', rfl, hB.step (f := .route) (by rw [hl0, hk]; rfl) ho ((Below.refl (g + 1) _).grown hg hB.sz (fun q e => (hB.own.at_ q e).1))⟩, hB.src.below (((Below.refl (g + 1) _).grown hg hB.sz (fun q e => (hB.own.at_ q e).1)).mono (Nat.le_refl _)) (Nat.lt_succ_self g)⟩)
  intro xs W hA hx hk2 hgt
  obtain ⟨r0, x, v9, e9, hA⟩ := hA.done rfl
  have e8 : xs 16 = v9 ∧ r0 = [xs 3, xs 6, xs 9, xs 12] := by
    have e9 : [xs 3, xs 6, xs 9, xs 12] ++ [xs 15] ++ [xs 16] = r0 ++ [x] ++ [v9] := e9
    obtain ⟨a1, a2⟩ := List.append_inj' e9 rfl
    obtain ⟨a3, _⟩ := List.append_inj' a1 rfl
    exact ⟨List.singleton_inj.1 a2, a3.symm⟩
  obtain ⟨e8, e7⟩ := e8
  subst e7 e8
  have hA : BA w1 g s v0 0 [xs 3, xs 6, xs 9, xs 12, xs 16] W := hA
  refine last_assign rfl (hgt 16 94 (by decide) (by kernel_rfl)) ?_
  clear hx hk2 hgt hA0
  simp only [initL, lastL, putL, Nat.reduceAdd, Act.put, List.setIfInBounds_toArray, List.set_cons_succ, List.set_cons_zero]
  go_wp2_with fail
  go_ret
  refine ⟨_, rfl, ?_, ?_⟩
  · have h1 := hA.own.mono (Nat.le_succ g)
    have h2 := HG.out
    subst h2
    unfold body
    rw [show ∀ n, n = (flds s.kind).length → (flds s.kind).take n = flds s.kind from fun n e => by rw [e, List.take_length]] at h1
    · exact h1
    · rw [hk]; rfl
  · have h2 := HG.out
    subst h2
    exact hb.trans (hA.low.mono (Nat.le_succ _))
set_option maxRecDepth 100000 in
set_option maxHeartbeats 4000000 in
theorem rbody7 (s : Said) (hs : s.wf) (hk : s.kind = 7) (h512 : s.route.length ≤ 512) (hok : ∀ f ∈ flds s.kind, layOk s f) (w : World) : Calls Tryz.prog 14 #[.agg (saidC s)] w fun e w' => ∃ v, e = .returned v ∧ Own 5 w' w.heap.size v (body s) ∧ Below w.heap.size w w' := by
  have k1 := Row.new w 29 (saidC s)
  have hb := below_new w (.cells (saidC s) 29)
  have hbx := boxSaid hs w
  have hz : w.heap.size + 1 ≤ (w.alloc (.cells (saidC s) 29)).heap.size := k1.lt
  go_enter Tryz.func14, Tryz.ntmps14
  go_upto_region 1 with fail
  obtain ⟨g, hg⟩ : ∃ q, q = w.heap.size := ⟨_, rfl⟩
  rw [← hg] at k1 hz ⊢
  have HG := Lib.hid hg
  clear hbx hg
  generalize w.alloc (.cells (saidC s) 29) = w1 at *
  have c0 : w1.cell? ⟨g, 0, none⟩ = some (.int .i64 (7)) := (k1.cell 0).trans ((saidC_kind hs).trans (by rw [hk]))
  have hnum := refNumA_any (.slice none 0 0) [] (g + 1) (((7) : Int).toNat) w1 (Own.nil _ _ _) hz (by decide) (by decide)
  go_upto_region 2 with (first
    | (go_at_call 36; refine hnum.mono ?_; clear hnum; rintro e w2 ⟨v0, rfl, hown0, hb2⟩)
    | fail)
  clear c0
  have k2 := k1.below (hb2.mono (Nat.le_refl _)) (Nat.lt_succ_self g)
  have hA0 : BA w1 g s v0 0 [] w2 := ⟨hb2, k2, by rw [hk]; exact hown0, Nat.le_trans hz hb2.size⟩
  have c0 : w2.cell? ⟨g, 0, none⟩ = some (.int .i64 (7)) := (k2.cell 0).trans ((saidC_kind hs).trans (by rw [hk]))
  clear k1 k2 hown0 hb2
  go_upto_region 15 with fail
  refine (wpIn_wide (n := 0)).1 ?_
  refine wpIn_region_cv wide_wide [v0, .pointer (some ⟨g, offN 7, none⟩), .int .i64 (s.n 7), undef, .pointer (some ⟨g, offH 8, none⟩), .agg (hC (s.h 8)), undef] [3, 6] (BA w1 g s v0 0) (fun rs W W' hL h => h.later hL) hA0 (by kernel_rfl) (by kernel_rfl) (by kernel_rfl) (by kernel_rfl) (by kernel_rfl) (by kernel_rfl) rfl (by decide) rfl ⟨?_, ?_, ?_, ?_, ?_, ?_, ?_, trivial⟩ ?_
  · exact cvStep_val rfl (fun ac W rs he hA => stepOk_want rfl (op_move rfl (he.keep (.tmp 3) (by kernel_rfl))))
  · exact cvStep_val rfl (fun ac W rs he hA => stepOk_want rfl (op_fieldAddr rfl (he.keep (.tmp 1) (by kernel_rfl)) (fieldSd 10 296 (by decide)) rfl))
  · exact cvStep_val rfl (fun ac W rs he hA => stepOk_want rfl (op_load rfl (show ac.eval (.tmp 98) = .pointer (some ⟨g, offN 7, none⟩) from he.val 1 98 (by kernel_rfl) rfl rfl) (loadSaidN hs (hA.src) 7 (by decide)) rfl))
  · refine cvStep_put (k := 0) rfl (.inl rfl) (fun ac W rs hlen he hA => ⟨rfl, ?_⟩)
    obtain rfl := List.eq_nil_of_length_eq_zero hlen
    have e0 : ac.eval (.tmp 97) = ([] : List Value).getLastD v0 := he.val 0 97 (by kernel_rfl) rfl rfl
    have e1 : ac.eval (.tmp 99) = .int .i64 (s.n 7) := he.val 2 99 (by kernel_rfl) rfl rfl
    exact op_callFK (vs := #[([] : List Value).getLastD v0, .int .i64 (s.n 7)]) rfl (by simp only [List.map_toArray, List.map_cons, List.map_nil, e0, e1]) (enters_of Tryz.func36 (by kernel_rfl) rfl) ((ba_num hs h512 hok hA 7 2147483647 (by rw [hk]; rfl)).mono fun e W' ⟨v, he', hb⟩ => ⟨v, he', v, rfl, hb⟩)
  · exact cvStep_val rfl (fun ac W rs he hA => stepOk_want rfl (op_fieldAddr rfl (he.keep (.tmp 1) (by kernel_rfl)) (fieldSd 9 264 (by decide)) rfl))
  · exact cvStep_val rfl (fun ac W rs he hA => stepOk_want rfl (op_load rfl (show ac.eval (.tmp 101) = .pointer (some ⟨g, offH 8, none⟩) from he.val 4 101 (by kernel_rfl) rfl rfl) (loadSaidH hs (hA.src) 8 (by decide)) rfl))
  · refine cvStep_put (k := 1) rfl (.inr (by kernel_rfl)) (fun ac W rs hlen he hA => ⟨rfl, ?_⟩)
    have e0 : ac.eval (.tmp 100) = rs.getLastD v0 := (he.res 0 100 (by decide) (by kernel_rfl) rfl).trans (getD_last hlen v0)
    have e1 : ac.eval (.tmp 102) = .agg (hC (s.h 8)) := he.val 5 102 (by kernel_rfl) rfl rfl
    exact op_callFK (vs := #[rs.getLastD v0, .agg (hC (s.h 8))]) rfl (by simp only [List.map_toArray, List.map_cons, List.map_nil, e0, e1]) (enters_of Tryz.func37 (by kernel_rfl) rfl) ((ba_hash hs h512 hA 8 (by decide) (by rw [hlen, hk]; rfl)).mono fun e W' ⟨v, he', hb⟩ => ⟨v, he', v, rfl, hb⟩)
  intro xs W hA hx hk2 hgt
  have hA : BA w1 g s v0 0 [xs 3, xs 6] W := hA
  refine last_assign rfl (hgt 6 103 (by decide) (by kernel_rfl)) ?_
  clear hx hk2 hgt hA0
  simp only [initL, lastL, putL, Nat.reduceAdd, Act.put, List.setIfInBounds_toArray, List.set_cons_succ, List.set_cons_zero]
  go_wp2_with fail
  go_ret
  refine ⟨_, rfl, ?_, ?_⟩
  · have h1 := hA.own.mono (Nat.le_succ g)
    have h2 := HG.out
    subst h2
    unfold body
    rw [show ∀ n, n = (flds s.kind).length → (flds s.kind).take n = flds s.kind from fun n e => by rw [e, List.take_length]] at h1
    · exact h1
    · rw [hk]; rfl
  · have h2 := HG.out
    subst h2
    exact hb.trans (hA.low.mono (Nat.le_succ _))
set_option maxRecDepth 100000 in
set_option maxHeartbeats 4000000 in
theorem rbody8 (s : Said) (hs : s.wf) (hk : s.kind = 8) (h512 : s.route.length ≤ 512) (hok : ∀ f ∈ flds s.kind, layOk s f) (w : World) : Calls Tryz.prog 14 #[.agg (saidC s)] w fun e w' => ∃ v, e = .returned v ∧ Own 5 w' w.heap.size v (body s) ∧ Below w.heap.size w w' := by
  have k1 := Row.new w 29 (saidC s)
  have hb := below_new w (.cells (saidC s) 29)
  have hbx := boxSaid hs w
  have hz : w.heap.size + 1 ≤ (w.alloc (.cells (saidC s) 29)).heap.size := k1.lt
  go_enter Tryz.func14, Tryz.ntmps14
  go_upto_region 1 with fail
  obtain ⟨g, hg⟩ : ∃ q, q = w.heap.size := ⟨_, rfl⟩
  rw [← hg] at k1 hz ⊢
  have HG := Lib.hid hg
  clear hbx hg
  generalize w.alloc (.cells (saidC s) 29) = w1 at *
  have c0 : w1.cell? ⟨g, 0, none⟩ = some (.int .i64 (8)) := (k1.cell 0).trans ((saidC_kind hs).trans (by rw [hk]))
  have hnum := refNumA_any (.slice none 0 0) [] (g + 1) (((8) : Int).toNat) w1 (Own.nil _ _ _) hz (by decide) (by decide)
  go_upto_region 2 with (first
    | (go_at_call 36; refine hnum.mono ?_; clear hnum; rintro e w2 ⟨v0, rfl, hown0, hb2⟩)
    | fail)
  clear c0
  have k2 := k1.below (hb2.mono (Nat.le_refl _)) (Nat.lt_succ_self g)
  have hA0 : BA w1 g s v0 0 [] w2 := ⟨hb2, k2, by rw [hk]; exact hown0, Nat.le_trans hz hb2.size⟩
  have c0 : w2.cell? ⟨g, 0, none⟩ = some (.int .i64 (8)) := (k2.cell 0).trans ((saidC_kind hs).trans (by rw [hk]))
  clear k1 k2 hown0 hb2
  go_upto_region 17 with fail
  refine (wpIn_wide (n := 0)).1 ?_
  refine wpIn_region_cv wide_wide [v0, .pointer (some ⟨g, offN 7, none⟩), .int .i64 (s.n 7), undef, .pointer (some ⟨g, offN 11, none⟩), .int .i64 (s.n 11), undef] [3, 6] (BA w1 g s v0 0) (fun rs W W' hL h => h.later hL) hA0 (by kernel_rfl) (by kernel_rfl) (by kernel_rfl) (by kernel_rfl) (by kernel_rfl) (by kernel_rfl) rfl (by decide) rfl ⟨?_, ?_, ?_, ?_, ?_, ?_, ?_, trivial⟩ ?_
  · exact cvStep_val rfl (fun ac W rs he hA => stepOk_want rfl (op_move rfl (he.keep (.tmp 3) (by kernel_rfl))))
  · exact cvStep_val rfl (fun ac W rs he hA => stepOk_want rfl (op_fieldAddr rfl (he.keep (.tmp 1) (by kernel_rfl)) (fieldSd 10 296 (by decide)) rfl))
  · exact cvStep_val rfl (fun ac W rs he hA => stepOk_want rfl (op_load rfl (show ac.eval (.tmp 107) = .pointer (some ⟨g, offN 7, none⟩) from he.val 1 107 (by kernel_rfl) rfl rfl) (loadSaidN hs (hA.src) 7 (by decide)) rfl))
  · refine cvStep_put (k := 0) rfl (.inl rfl) (fun ac W rs hlen he hA => ⟨rfl, ?_⟩)
    obtain rfl := List.eq_nil_of_length_eq_zero hlen
    have e0 : ac.eval (.tmp 106) = ([] : List Value).getLastD v0 := he.val 0 106 (by kernel_rfl) rfl rfl
    have e1 : ac.eval (.tmp 108) = .int .i64 (s.n 7) := he.val 2 108 (by kernel_rfl) rfl rfl
    exact op_callFK (vs := #[([] : List Value).getLastD v0, .int .i64 (s.n 7)]) rfl (by simp only [List.map_toArray, List.map_cons, List.map_nil, e0, e1]) (enters_of Tryz.func36 (by kernel_rfl) rfl) ((ba_num hs h512 hok hA 7 2147483647 (by rw [hk]; rfl)).mono fun e W' ⟨v, he', hb⟩ => ⟨v, he', v, rfl, hb⟩)
  · exact cvStep_val rfl (fun ac W rs he hA => stepOk_want rfl (op_fieldAddr rfl (he.keep (.tmp 1) (by kernel_rfl)) (fieldSd 14 300 (by decide)) rfl))
  · exact cvStep_val rfl (fun ac W rs he hA => stepOk_want rfl (op_load rfl (show ac.eval (.tmp 110) = .pointer (some ⟨g, offN 11, none⟩) from he.val 4 110 (by kernel_rfl) rfl rfl) (loadSaidN hs (hA.src) 11 (by decide)) rfl))
  · refine cvStep_put (k := 1) rfl (.inr (by kernel_rfl)) (fun ac W rs hlen he hA => ⟨rfl, ?_⟩)
    have e0 : ac.eval (.tmp 109) = rs.getLastD v0 := (he.res 0 109 (by decide) (by kernel_rfl) rfl).trans (getD_last hlen v0)
    have e1 : ac.eval (.tmp 111) = .int .i64 (s.n 11) := he.val 5 111 (by kernel_rfl) rfl rfl
    exact op_callFK (vs := #[rs.getLastD v0, .int .i64 (s.n 11)]) rfl (by simp only [List.map_toArray, List.map_cons, List.map_nil, e0, e1]) (enters_of Tryz.func36 (by kernel_rfl) rfl) ((ba_num hs h512 hok hA 11 2147483647 (by rw [hlen, hk]; rfl)).mono fun e W' ⟨v, he', hb⟩ => ⟨v, he', v, rfl, hb⟩)
  intro xs W hA hx hk2 hgt
  have hA : BA w1 g s v0 0 [xs 3, xs 6] W := hA
  refine last_assign rfl (hgt 6 112 (by decide) (by kernel_rfl)) ?_
  clear hx hk2 hgt hA0
  simp only [initL, lastL, putL, Nat.reduceAdd, Act.put, List.setIfInBounds_toArray, List.set_cons_succ, List.set_cons_zero]
  go_wp2_with fail
  go_ret
  refine ⟨_, rfl, ?_, ?_⟩
  · have h1 := hA.own.mono (Nat.le_succ g)
    have h2 := HG.out
    subst h2
    unfold body
    rw [show ∀ n, n = (flds s.kind).length → (flds s.kind).take n = flds s.kind from fun n e => by rw [e, List.take_length]] at h1
    · exact h1
    · rw [hk]; rfl
  · have h2 := HG.out
    subst h2
    exact hb.trans (hA.low.mono (Nat.le_succ _))
set_option maxRecDepth 100000 in
set_option maxHeartbeats 4000000 in
theorem rbody9 (s : Said) (hs : s.wf) (hk : s.kind = 9) (h512 : s.route.length ≤ 512) (hok : ∀ f ∈ flds s.kind, layOk s f) (w : World) : Calls Tryz.prog 14 #[.agg (saidC s)] w fun e w' => ∃ v, e = .returned v ∧ Own 5 w' w.heap.size v (body s) ∧ Below w.heap.size w w' := by
  have k1 := Row.new w 29 (saidC s)
  have hb := below_new w (.cells (saidC s) 29)
  have hbx := boxSaid hs w
  have hz : w.heap.size + 1 ≤ (w.alloc (.cells (saidC s) 29)).heap.size := k1.lt
  go_enter Tryz.func14, Tryz.ntmps14
  go_upto_region 1 with fail
  obtain ⟨g, hg⟩ : ∃ q, q = w.heap.size := ⟨_, rfl⟩
  rw [← hg] at k1 hz ⊢
  have HG := Lib.hid hg
  clear hbx hg
  generalize w.alloc (.cells (saidC s) 29) = w1 at *
  have c0 : w1.cell? ⟨g, 0, none⟩ = some (.int .i64 (9)) := (k1.cell 0).trans ((saidC_kind hs).trans (by rw [hk]))
  have hnum := refNumA_any (.slice none 0 0) [] (g + 1) (((9) : Int).toNat) w1 (Own.nil _ _ _) hz (by decide) (by decide)
  go_upto_region 2 with (first
    | (go_at_call 36; refine hnum.mono ?_; clear hnum; rintro e w2 ⟨v0, rfl, hown0, hb2⟩)
    | fail)
  clear c0
  have k2 := k1.below (hb2.mono (Nat.le_refl _)) (Nat.lt_succ_self g)
  have hA0 : BA w1 g s v0 0 [] w2 := ⟨hb2, k2, by rw [hk]; exact hown0, Nat.le_trans hz hb2.size⟩
  have c0 : w2.cell? ⟨g, 0, none⟩ = some (.int .i64 (9)) := (k2.cell 0).trans ((saidC_kind hs).trans (by rw [hk]))
  clear k1 k2 hown0 hb2
  go_upto_region 19 with fail
  refine (wpIn_wide (n := 0)).1 ?_
  refine wpIn_region_cv wide_wide [v0, .pointer (some ⟨g, offN 8, none⟩), .int .i64 (s.n 8), undef, .pointer (some ⟨g, offH 7, none⟩), .agg (hC (s.h 7)), undef] [3, 6] (BA w1 g s v0 0) (fun rs W W' hL h => h.later hL) hA0 (by kernel_rfl) (by kernel_rfl) (by kernel_rfl) (by kernel_rfl) (by kernel_rfl) (by kernel_rfl) rfl (by decide) rfl ⟨?_, ?_, ?_, ?_, ?_, ?_, ?_, trivial⟩ ?_
  · exact cvStep_val rfl (fun ac W rs he hA => stepOk_want rfl (op_move rfl (he.keep (.tmp 3) (by kernel_rfl))))
  · exact cvStep_val rfl (fun ac W rs he hA => stepOk_want rfl (op_fieldAddr rfl (he.keep (.tmp 1) (by kernel_rfl)) (fieldSd 11 297 (by decide)) rfl))
  · exact cvStep_val rfl (fun ac W rs he hA => stepOk_want rfl (op_load rfl (show ac.eval (.tmp 116) = .pointer (some ⟨g, offN 8, none⟩) from he.val 1 116 (by kernel_rfl) rfl rfl) (loadSaidN hs (hA.src) 8 (by decide)) rfl))
  · refine cvStep_put (k := 0) rfl (.inl rfl) (fun ac W rs hlen he hA => ⟨rfl, ?_⟩)
    obtain rfl := List.eq_nil_of_length_eq_zero hlen
    have e0 : ac.eval (.tmp 115) = ([] : List Value).getLastD v0 := he.val 0 115 (by kernel_rfl) rfl rfl
    have e1 : ac.eval (.tmp 117) = .int .i64 (s.n 8) := he.val 2 117 (by kernel_rfl) rfl rfl
    exact op_callFK (vs := #[([] : List Value).getLastD v0, .int .i64 (s.n 8)]) rfl (by simp only [List.map_toArray, List.map_cons, List.map_nil, e0, e1]) (enters_of Tryz.func36 (by kernel_rfl) rfl) ((ba_num hs h512 hok hA 8 2147483647 (by rw [hk]; rfl)).mono fun e W' ⟨v, he', hb⟩ => ⟨v, he', v, rfl, hb⟩)
  · exact cvStep_val rfl (fun ac W rs he hA => stepOk_want rfl (op_fieldAddr rfl (he.keep (.tmp 1) (by kernel_rfl)) (fieldSd 8 232 (by decide)) rfl))
  · exact cvStep_val rfl (fun ac W rs he hA => stepOk_want rfl (op_load rfl (show ac.eval (.tmp 119) = .pointer (some ⟨g, offH 7, none⟩) from he.val 4 119 (by kernel_rfl) rfl rfl) (loadSaidH hs (hA.src) 7 (by decide)) rfl))
  · refine cvStep_put (k := 1) rfl (.inr (by kernel_rfl)) (fun ac W rs hlen he hA => ⟨rfl, ?_⟩)
    have e0 : ac.eval (.tmp 118) = rs.getLastD v0 := (he.res 0 118 (by decide) (by kernel_rfl) rfl).trans (getD_last hlen v0)
    have e1 : ac.eval (.tmp 120) = .agg (hC (s.h 7)) := he.val 5 120 (by kernel_rfl) rfl rfl
    exact op_callFK (vs := #[rs.getLastD v0, .agg (hC (s.h 7))]) rfl (by simp only [List.map_toArray, List.map_cons, List.map_nil, e0, e1]) (enters_of Tryz.func37 (by kernel_rfl) rfl) ((ba_hash hs h512 hA 7 (by decide) (by rw [hlen, hk]; rfl)).mono fun e W' ⟨v, he', hb⟩ => ⟨v, he', v, rfl, hb⟩)
  intro xs W hA hx hk2 hgt
  have hA : BA w1 g s v0 0 [xs 3, xs 6] W := hA
  refine last_assign rfl (hgt 6 121 (by decide) (by kernel_rfl)) ?_
  clear hx hk2 hgt hA0
  simp only [initL, lastL, putL, Nat.reduceAdd, Act.put, List.setIfInBounds_toArray, List.set_cons_succ, List.set_cons_zero]
  go_wp2_with fail
  go_ret
  refine ⟨_, rfl, ?_, ?_⟩
  · have h1 := hA.own.mono (Nat.le_succ g)
    have h2 := HG.out
    subst h2
    unfold body
    rw [show ∀ n, n = (flds s.kind).length → (flds s.kind).take n = flds s.kind from fun n e => by rw [e, List.take_length]] at h1
    · exact h1
    · rw [hk]; rfl
  · have h2 := HG.out
    subst h2
    exact hb.trans (hA.low.mono (Nat.le_succ _))
set_option maxRecDepth 100000 in
set_option maxHeartbeats 4000000 in
theorem rbody10 (s : Said) (hs : s.wf) (hk : s.kind = 10) (h512 : s.route.length ≤ 512) (hok : ∀ f ∈ flds s.kind, layOk s f) (w : World) : Calls Tryz.prog 14 #[.agg (saidC s)] w fun e w' => ∃ v, e = .returned v ∧ Own 5 w' w.heap.size v (body s) ∧ Below w.heap.size w w' := by
  have k1 := Row.new w 29 (saidC s)
  have hb := below_new w (.cells (saidC s) 29)
  have hbx := boxSaid hs w
  have hz : w.heap.size + 1 ≤ (w.alloc (.cells (saidC s) 29)).heap.size := k1.lt
  go_enter Tryz.func14, Tryz.ntmps14
  go_upto_region 1 with fail
  obtain ⟨g, hg⟩ : ∃ q, q = w.heap.size := ⟨_, rfl⟩
  rw [← hg] at k1 hz ⊢
  have HG := Lib.hid hg
  clear hbx hg
  generalize w.alloc (.cells (saidC s) 29) = w1 at *
  have c0 : w1.cell? ⟨g, 0, none⟩ = some (.int .i64 (10)) := (k1.cell 0).trans ((saidC_kind hs).trans (by rw [hk]))
  have hnum := refNumA_any (.slice none 0 0) [] (g + 1) (((10) : Int).toNat) w1 (Own.nil _ _ _) hz (by decide) (by decide)
  go_upto_region 2 with (first
    | (go_at_call 36; refine hnum.mono ?_; clear hnum; rintro e w2 ⟨v0, rfl, hown0, hb2⟩)
    | fail)
  clear c0
  have k2 := k1.below (hb2.mono (Nat.le_refl _)) (Nat.lt_succ_self g)
  have hA0 : BA w1 g s v0 0 [] w2 := ⟨hb2, k2, by rw [hk]; exact hown0, Nat.le_trans hz hb2.size⟩
  have c0 : w2.cell? ⟨g, 0, none⟩ = some (.int .i64 (10)) := (k2.cell 0).trans ((saidC_kind hs).trans (by rw [hk]))
  clear k1 k2 hown0 hb2
  go_upto_region 21 with fail
  refine (wpIn_wide (n := 0)).1 ?_
  refine wpIn_region_cv wide_wide [v0, .pointer (some ⟨g, offN 8, none⟩), .int .i64 (s.n 8), undef, .pointer (some ⟨g, offH 8, none⟩), .agg (hC (s.h 8)), undef, .pointer (some ⟨g, offH 4, none⟩), .agg (hC (s.h 4)), undef] [3, 6, 9] (BA w1 g s v0 0) (fun rs W W' hL h => h.later hL) hA0 (by kernel_rfl) (by kernel_rfl) (by kernel_rfl) (by kernel_rfl) (by kernel_rfl) (by kernel_rfl) rfl (by decide) rfl ⟨?_, ?_, ?_, ?_, ?_, ?_, ?_, ?_, ?_, ?_, trivial⟩ ?_
  · exact cvStep_val rfl (fun ac W rs he hA => stepOk_want rfl (op_move rfl (he.keep (.tmp 3) (by kernel_rfl))))
  · exact cvStep_val rfl (fun ac W rs he hA => stepOk_want rfl (op_fieldAddr rfl (he.keep (.tmp 1) (by kernel_rfl)) (fieldSd 11 297 (by decide)) rfl))
  · exact cvStep_val rfl (fun ac W rs he hA => stepOk_want rfl (op_load rfl (show ac.eval (.tmp 125) = .pointer (some ⟨g, offN 8, none⟩) from he.val 1 125 (by kernel_rfl) rfl rfl) (loadSaidN hs (hA.src) 8 (by decide)) rfl))
  · refine cvStep_put (k := 0) rfl (.inl rfl) (fun ac W rs hlen he hA => ⟨rfl, ?_⟩)
    obtain rfl := List.eq_nil_of_length_eq_zero hlen
    have e0 : ac.eval (.tmp 124) = ([] : List Value).getLastD v0 := he.val 0 124 (by kernel_rfl) rfl rfl
    have e1 : ac.eval (.tmp 126) = .int .i64 (s.n 8) := he.val 2 126 (by kernel_rfl) rfl rfl
    exact op_callFK (vs := #[([] : List Value).getLastD v0, .int .i64 (s.n 8)]) rfl (by simp only [List.map_toArray, List.map_cons, List.map_nil, e0, e1]) (enters_of Tryz.func36 (by kernel_rfl) rfl) ((ba_num hs h512 hok hA 8 2147483647 (by rw [hk]; rfl)).mono fun e W' ⟨v, he', hb⟩ => ⟨v, he', v, rfl, hb⟩)
  · exact cvStep_val rfl (fun ac W rs he hA => stepOk_want rfl (op_fieldAddr rfl (he.keep (.tmp 1) (by kernel_rfl)) (fieldSd 9 264 (by decide)) rfl))
  · exact cvStep_val rfl (fun ac W rs he hA => stepOk_want rfl (op_load rfl (show ac.eval (.tmp 128) = .pointer (some ⟨g, offH 8, none⟩) from he.val 4 128 (by kernel_rfl) rfl rfl) (loadSaidH hs (hA.src) 8 (by decide)) rfl))
  · refine cvStep_put (k := 1) rfl (.inr (by kernel_rfl)) (fun ac W rs hlen he hA => ⟨rfl, ?_⟩)
    have e0 : ac.eval (.tmp 127) = rs.getLastD v0 := (he.res 0 127 (by decide) (by kernel_rfl) rfl).trans (getD_last hlen v0)
    have e1 : ac.eval (.tmp 129) = .agg (hC (s.h 8)) := he.val 5 129 (by kernel_rfl) rfl rfl
    exact op_callFK (vs := #[rs.getLastD v0, .agg (hC (s.h 8))]) rfl (by simp only [List.map_toArray, List.map_cons, List.map_nil, e0, e1]) (enters_of Tryz.func37 (by kernel_rfl) rfl) ((ba_hash hs h512 hA 8 (by decide) (by rw [hlen, hk]; rfl)).mono fun e W' ⟨v, he', hb⟩ => ⟨v, he', v, rfl, hb⟩)
  · exact cvStep_val rfl (fun ac W rs he hA => stepOk_want rfl (op_fieldAddr rfl (he.keep (.tmp 1) (by kernel_rfl)) (fieldSd 5 136 (by decide)) rfl))
  · exact cvStep_val rfl (fun ac W rs he hA => stepOk_want rfl (op_load rfl (show ac.eval (.tmp 131) = .pointer (some ⟨g, offH 4, none⟩) from he.val 7 131 (by kernel_rfl) rfl rfl) (loadSaidH hs (hA.src) 4 (by decide)) rfl))
  · refine cvStep_put (k := 2) rfl (.inr (by kernel_rfl)) (fun ac W rs hlen he hA => ⟨rfl, ?_⟩)
    have e0 : ac.eval (.tmp 130) = rs.getLastD v0 := (he.res 1 130 (by decide) (by kernel_rfl) rfl).trans (getD_last hlen v0)
    have e1 : ac.eval (.tmp 132) = .agg (hC (s.h 4)) := he.val 8 132 (by kernel_rfl) rfl rfl
    exact op_callFK (vs := #[rs.getLastD v0, .agg (hC (s.h 4))]) rfl (by simp only [List.map_toArray, List.map_cons, List.map_nil, e0, e1]) (enters_of Tryz.func37 (by kernel_rfl) rfl) ((ba_hash hs h512 hA 4 (by decide) (by rw [hlen, hk]; rfl)).mono fun e W' ⟨v, he', hb⟩ => ⟨v, he', v, rfl, hb⟩)
  intro xs W hA hx hk2 hgt
  have hA : BA w1 g s v0 0 [xs 3, xs 6, xs 9] W := hA
  refine last_assign rfl (hgt 9 133 (by decide) (by kernel_rfl)) ?_
  clear hx hk2 hgt hA0
  simp only [initL, lastL, putL, Nat.reduceAdd, Act.put, List.setIfInBounds_toArray, List.set_cons_succ, List.set_cons_zero]
  go_wp2_with fail
  go_ret
  refine ⟨_, rfl, ?_, ?_⟩
  · have h1 := hA.own.mono (Nat.le_succ g)
    have h2 := HG.out
    subst h2
    unfold body
    rw [show ∀ n, n = (flds s.kind).length → (flds s.kind).take n = flds s.kind from fun n e => by rw [e, List.take_length]] at h1
    · exact h1
    · rw [hk]; rfl
  · have h2 := HG.out
    subst h2
    exact hb.trans (hA.low.mono (Nat.le_succ _))
set_option maxRecDepth 100000 in
set_option maxHeartbeats 4000000 in
theorem rbody11 (s : Said) (hs : s.wf) (hk : s.kind = 11) (h512 : s.route.length ≤ 512) (hok : ∀ f ∈ flds s.kind, layOk s f) (w : World) : Calls Tryz.prog 14 #[.agg (saidC s)] w fun e w' => ∃ v, e = .returned v ∧ Own 5 w' w.heap.size v (body s) ∧ Below w.heap.size w w' := by
  have k1 := Row.new w 29 (saidC s)
  have hb := below_new w (.cells (saidC s) 29)
  have hbx := boxSaid hs w
  have hz : w.heap.size + 1 ≤ (w.alloc (.cells (saidC s) 29)).heap.size := k1.lt
  go_enter Tryz.func14, Tryz.ntmps14
  go_upto_region 1 with fail
  obtain ⟨g, hg⟩ : ∃ q, q = w.heap.size := ⟨_, rfl⟩
  rw [← hg] at k1 hz ⊢
  have HG := Lib.hid hg
  clear hbx hg
  generalize w.alloc (.cells (saidC s) 29) = w1 at *
  have c0 : w1.cell? ⟨g, 0, none⟩ = some (.int .i64 (11)) := (k1.cell 0).trans ((saidC_kind hs).trans (by rw [hk]))
  have hnum := refNumA_any (.slice none 0 0) [] (g + 1) (((11) : Int).toNat) w1 (Own.nil _ _ _) hz (by decide) (by decide)
  go_upto_region 2 with (first
    | (go_at_call 36; refine hnum.mono ?_; clear hnum; rintro e w2 ⟨v0, rfl, hown0, hb2⟩)
    | fail)
  clear c0
  have k2 := k1.below (hb2.mono (Nat.le_refl _)) (Nat.lt_succ_self g)
  have hA0 : BA w1 g s v0 0 [] w2 := ⟨hb2, k2, by rw [hk]; exact hown0, Nat.le_trans hz hb2.size⟩
  have c0 : w2.cell? ⟨g, 0, none⟩ = some (.int .i64 (11)) := (k2.cell 0).trans ((saidC_kind hs).trans (by rw [hk]))
  clear k1 k2 hown0 hb2
  go_upto_region 23 with fail
  refine (wpIn_wide (n := 0)).1 ?_
  refine wpIn_region_cv wide_wide [v0, .pointer (some ⟨g, offN 8, none⟩), .int .i64 (s.n 8), undef, .pointer (some ⟨g, offN 7, none⟩), .int .i64 (s.n 7), undef] [3, 6] (BA w1 g s v0 0) (fun rs W W' hL h => h.later hL) hA0 (by kernel_rfl) (by kernel_rfl) (by kernel_rfl) (by kernel_rfl) (by kernel_rfl) (by kernel_rfl) rfl (by decide) rfl ⟨?_, ?_, ?_, ?_, ?_, ?_, ?_, trivial⟩ ?_
  · exact cvStep_val rfl (fun ac W rs he hA => stepOk_want rfl (op_move rfl (he.keep (.tmp 3) (by kernel_rfl))))
  · exact cvStep_val rfl (fun ac W rs he hA => stepOk_want rfl (op_fieldAddr rfl (he.keep (.tmp 1) (by kernel_rfl)) (fieldSd 11 297 (by decide)) rfl))
  · exact cvStep_val rfl (fun ac W rs he hA => stepOk_want rfl (op_load rfl (show ac.eval (.tmp 137) = .pointer (some ⟨g, offN 8, none⟩) from he.val 1 137 (by kernel_rfl) rfl rfl) (loadSaidN hs (hA.src) 8 (by decide)) rfl))
  · refine cvStep_put (k := 0) rfl (.inl rfl) (fun ac W rs hlen he hA => ⟨rfl, ?_⟩)
    obtain rfl := List.eq_nil_of_length_eq_zero hlen
    have e0 : ac.eval (.tmp 136) = ([] : List Value).getLastD v0 := he.val 0 136 (by kernel_rfl) rfl rfl
    have e1 : ac.eval (.tmp 138) = .int .i64 (s.n 8) := he.val 2 138 (by kernel_rfl) rfl rfl
    exact op_callFK (vs := #[([] : List Value).getLastD v0, .int .i64 (s.n 8)]) rfl (by simp only [List.map_toArray, List.map_cons, List.map_nil, e0, e1]) (enters_of Tryz.func36 (by kernel_rfl) rfl) ((ba_num hs h512 hok hA 8 2147483647 (by rw [hk]; rfl)).mono fun e W' ⟨v, he', hb⟩ => ⟨v, he', v, rfl, hb⟩)
  · exact cvStep_val rfl (fun ac W rs he hA => stepOk_want rfl (op_fieldAddr rfl (he.keep (.tmp 1) (by kernel_rfl)) (fieldSd 10 296 (by decide)) rfl))
  · exact cvStep_val rfl (fun ac W rs he hA => stepOk_want rfl (op_load rfl (show ac.eval (.tmp 140) = .pointer (some ⟨g, offN 7, none⟩) from he.val 4 140 (by kernel_rfl) rfl rfl) (loadSaidN hs (hA.src) 7 (by decide)) rfl))
  · refine cvStep_put (k := 1) rfl (.inr (by kernel_rfl)) (fun ac W rs hlen he hA => ⟨rfl, ?_⟩)
    have e0 : ac.eval (.tmp 139) = rs.getLastD v0 := (he.res 0 139 (by decide) (by kernel_rfl) rfl).trans (getD_last hlen v0)
    have e1 : ac.eval (.tmp 141) = .int .i64 (s.n 7) := he.val 5 141 (by kernel_rfl) rfl rfl
    exact op_callFK (vs := #[rs.getLastD v0, .int .i64 (s.n 7)]) rfl (by simp only [List.map_toArray, List.map_cons, List.map_nil, e0, e1]) (enters_of Tryz.func36 (by kernel_rfl) rfl) ((ba_num hs h512 hok hA 7 2147483647 (by rw [hlen, hk]; rfl)).mono fun e W' ⟨v, he', hb⟩ => ⟨v, he', v, rfl, hb⟩)
  intro xs W hA hx hk2 hgt
  have hA : BA w1 g s v0 0 [xs 3, xs 6] W := hA
  refine last_assign rfl (hgt 6 142 (by decide) (by kernel_rfl)) ?_
  clear hx hk2 hgt hA0
  simp only [initL, lastL, putL, Nat.reduceAdd, Act.put, List.setIfInBounds_toArray, List.set_cons_succ, List.set_cons_zero]
  go_wp2_with fail
  go_ret
  refine ⟨_, rfl, ?_, ?_⟩
  · have h1 := hA.own.mono (Nat.le_succ g)
    have h2 := HG.out
    subst h2
    unfold body
    rw [show ∀ n, n = (flds s.kind).length → (flds s.kind).take n = flds s.kind from fun n e => by rw [e, List.take_length]] at h1
    · exact h1
    · rw [hk]; rfl
  · have h2 := HG.out
    subst h2
    exact hb.trans (hA.low.mono (Nat.le_succ _))
set_option maxRecDepth 100000 in
set_option maxHeartbeats 4000000 in
theorem rbody12 (s : Said) (hs : s.wf) (hk : s.kind = 12) (h512 : s.route.length ≤ 512) (hok : ∀ f ∈ flds s.kind, layOk s f) (w : World) : Calls Tryz.prog 14 #[.agg (saidC s)] w fun e w' => ∃ v, e = .returned v ∧ Own 5 w' w.heap.size v (body s) ∧ Below w.heap.size w w' := by
  have k1 := Row.new w 29 (saidC s)
  have hb := below_new w (.cells (saidC s) 29)
  have hbx := boxSaid hs w
  have hz : w.heap.size + 1 ≤ (w.alloc (.cells (saidC s) 29)).heap.size := k1.lt
  go_enter Tryz.func14, Tryz.ntmps14
  go_upto_region 1 with fail
  obtain ⟨g, hg⟩ : ∃ q, q = w.heap.size := ⟨_, rfl⟩
  rw [← hg] at k1 hz ⊢
  have HG := Lib.hid hg
  clear hbx hg
  generalize w.alloc (.cells (saidC s) 29) = w1 at *
  have c0 : w1.cell? ⟨g, 0, none⟩ = some (.int .i64 (12)) := (k1.cell 0).trans ((saidC_kind hs).trans (by rw [hk]))
  have hnum := refNumA_any (.slice none 0 0) [] (g + 1) (((12) : Int).toNat) w1 (Own.nil _ _ _) hz (by decide) (by decide)
  go_upto_region 2 with (first
    | (go_at_call 36; refine hnum.mono ?_; clear hnum; rintro e w2 ⟨v0, rfl, hown0, hb2⟩)
    | fail)
  clear c0
  have k2 := k1.below (hb2.mono (Nat.le_refl _)) (Nat.lt_succ_self g)
  have hA0 : BA w1 g s v0 0 [] w2 := ⟨hb2, k2, by rw [hk]; exact hown0, Nat.le_trans hz hb2.size⟩
  have c0 : w2.cell? ⟨g, 0, none⟩ = some (.int .i64 (12)) := (k2.cell 0).trans ((saidC_kind hs).trans (by rw [hk]))
  clear k1 k2 hown0 hb2
  have hA := hA0
  clear hA0
  go_wp2_with fail
  go_ret
  refine ⟨_, rfl, ?_, ?_⟩
  · have h1 := hA.own.mono (Nat.le_succ g)
    have h2 := HG.out
    subst h2
    unfold body
    rw [show ∀ n, n = (flds s.kind).length → (flds s.kind).take n = flds s.kind from fun n e => by rw [e, List.take_length]] at h1
    · exact h1
    · rw [hk]; rfl
  · have h2 := HG.out
    subst h2
    exact hb.trans (hA.low.mono (Nat.le_succ _))
set_option maxRecDepth 100000 in
set_option maxHeartbeats 4000000 in
theorem rbody13 (s : Said) (hs : s.wf) (hk : s.kind = 13) (h512 : s.route.length ≤ 512) (hok : ∀ f ∈ flds s.kind, layOk s f) (w : World) : Calls Tryz.prog 14 #[.agg (saidC s)] w fun e w' => ∃ v, e = .returned v ∧ Own 5 w' w.heap.size v (body s) ∧ Below w.heap.size w w' := by
  have k1 := Row.new w 29 (saidC s)
  have hb := below_new w (.cells (saidC s) 29)
  have hbx := boxSaid hs w
  have hz : w.heap.size + 1 ≤ (w.alloc (.cells (saidC s) 29)).heap.size := k1.lt
  go_enter Tryz.func14, Tryz.ntmps14
  go_upto_region 1 with fail
  obtain ⟨g, hg⟩ : ∃ q, q = w.heap.size := ⟨_, rfl⟩
  rw [← hg] at k1 hz ⊢
  have HG := Lib.hid hg
  clear hbx hg
  generalize w.alloc (.cells (saidC s) 29) = w1 at *
  have c0 : w1.cell? ⟨g, 0, none⟩ = some (.int .i64 (13)) := (k1.cell 0).trans ((saidC_kind hs).trans (by rw [hk]))
  have hnum := refNumA_any (.slice none 0 0) [] (g + 1) (((13) : Int).toNat) w1 (Own.nil _ _ _) hz (by decide) (by decide)
  go_upto_region 2 with (first
    | (go_at_call 36; refine hnum.mono ?_; clear hnum; rintro e w2 ⟨v0, rfl, hown0, hb2⟩)
    | fail)
  clear c0
  have k2 := k1.below (hb2.mono (Nat.le_refl _)) (Nat.lt_succ_self g)
  have hA0 : BA w1 g s v0 0 [] w2 := ⟨hb2, k2, by rw [hk]; exact hown0, Nat.le_trans hz hb2.size⟩
  have c0 : w2.cell? ⟨g, 0, none⟩ = some (.int .i64 (13)) := (k2.cell 0).trans ((saidC_kind hs).trans (by rw [hk]))
  clear k1 k2 hown0 hb2
  go_upto_region 25 with fail
  refine (wpIn_wide (n := 0)).1 ?_
  refine wpIn_region_cv wide_wide [v0, .pointer (some ⟨g, offN 6, none⟩), .int .i64 (s.n 6), undef, .pointer (some ⟨g, offH 7, none⟩), .agg (hC (s.h 7)), undef] [3, 6] (BA w1 g s v0 0) (fun rs W W' hL h => h.later hL) hA0 (by kernel_rfl) (by kernel_rfl) (by kernel_rfl) (by kernel_rfl) (by kernel_rfl) (by kernel_rfl) rfl (by decide) rfl ⟨?_, ?_, ?_, ?_, ?_, ?_, ?_, trivial⟩ ?_
  · exact cvStep_val rfl (fun ac W rs he hA => stepOk_want rfl (op_move rfl (he.keep (.tmp 3) (by kernel_rfl))))
  · exact cvStep_val rfl (fun ac W rs he hA => stepOk_want rfl (op_fieldAddr rfl (he.keep (.tmp 1) (by kernel_rfl)) (fieldSd 3 103 (by decide)) rfl))
  · exact cvStep_val rfl (fun ac W rs he hA => stepOk_want rfl (op_load rfl (show ac.eval (.tmp 146) = .pointer (some ⟨g, offN 6, none⟩) from he.val 1 146 (by kernel_rfl) rfl rfl) (loadSaidN hs (hA.src) 6 (by decide)) rfl))
  · refine cvStep_put (k := 0) rfl (.inl rfl) (fun ac W rs hlen he hA => ⟨rfl, ?_⟩)
    obtain rfl := List.eq_nil_of_length_eq_zero hlen
    have e0 : ac.eval (.tmp 145) = ([] : List Value).getLastD v0 := he.val 0 145 (by kernel_rfl) rfl rfl
    have e1 : ac.eval (.tmp 147) = .int .i64 (s.n 6) := he.val 2 147 (by kernel_rfl) rfl rfl
    exact op_callFK (vs := #[([] : List Value).getLastD v0, .int .i64 (s.n 6)]) rfl (by simp only [List.map_toArray, List.map_cons, List.map_nil, e0, e1]) (enters_of Tryz.func36 (by kernel_rfl) rfl) ((ba_num hs h512 hok hA 6 1125899906842624 (by rw [hk]; rfl)).mono fun e W' ⟨v, he', hb⟩ => ⟨v, he', v, rfl, hb⟩)
  · exact cvStep_val rfl (fun ac W rs he hA => stepOk_want rfl (op_fieldAddr rfl (he.keep (.tmp 1) (by kernel_rfl)) (fieldSd 8 232 (by decide)) rfl))
  · exact cvStep_val rfl (fun ac W rs he hA => stepOk_want rfl (op_load rfl (show ac.eval (.tmp 149) = .pointer (some ⟨g, offH 7, none⟩) from he.val 4 149 (by kernel_rfl) rfl rfl) (loadSaidH hs (hA.src) 7 (by decide)) rfl))
  · refine cvStep_put (k := 1) rfl (.inr (by kernel_rfl)) (fun ac W rs hlen he hA => ⟨rfl, ?_⟩)
    have e0 : ac.eval (.tmp 148) = rs.getLastD v0 := (he.res 0 148 (by decide) (by kernel_rfl) rfl).trans (getD_last hlen v0)
    have e1 : ac.eval (.tmp 150) = .agg (hC (s.h 7)) := he.val 5 150 (by kernel_rfl) rfl rfl
    exact op_callFK (vs := #[rs.getLastD v0, .agg (hC (s.h 7))]) rfl (by simp only [List.map_toArray, List.map_cons, List.map_nil, e0, e1]) (enters_of Tryz.func37 (by kernel_rfl) rfl) ((ba_hash hs h512 hA 7 (by decide) (by rw [hlen, hk]; rfl)).mono fun e W' ⟨v, he', hb⟩ => ⟨v, he', v, rfl, hb⟩)
  intro xs W hA hx hk2 hgt
  have hA : BA w1 g s v0 0 [xs 3, xs 6] W := hA
  refine last_assign rfl (hgt 6 151 (by decide) (by kernel_rfl)) ?_
  clear hx hk2 hgt hA0
  simp only [initL, lastL, putL, Nat.reduceAdd, Act.put, List.setIfInBounds_toArray, List.set_cons_succ, List.set_cons_zero]
  go_wp2_with fail
  go_ret
  refine ⟨_, rfl, ?_, ?_⟩
  · have h1 := hA.own.mono (Nat.le_succ g)
    have h2 := HG.out
    subst h2
    unfold body
    rw [show ∀ n, n = (flds s.kind).length → (flds s.kind).take n = flds s.kind from fun n e => by rw [e, List.take_length]] at h1
    · exact h1
    · rw [hk]; rfl
  · have h2 := HG.out
    subst h2
    exact hb.trans (hA.low.mono (Nat.le_succ _))
set_option maxRecDepth 100000 in
set_option maxHeartbeats 4000000 in
theorem rbody14 (s : Said) (hs : s.wf) (hk : s.kind = 14) (h512 : s.route.length ≤ 512) (hok : ∀ f ∈ flds s.kind, layOk s f) (w : World) : Calls Tryz.prog 14 #[.agg (saidC s)] w fun e w' => ∃ v, e = .returned v ∧ Own 5 w' w.heap.size v (body s) ∧ Below w.heap.size w w' := by
  have k1 := Row.new w 29 (saidC s)
  have hb := below_new w (.cells (saidC s) 29)
  have hbx := boxSaid hs w
  have hz : w.heap.size + 1 ≤ (w.alloc (.cells (saidC s) 29)).heap.size := k1.lt
  go_enter Tryz.func14, Tryz.ntmps14
  go_upto_region 1 with fail
  obtain ⟨g, hg⟩ : ∃ q, q = w.heap.size := ⟨_, rfl⟩
  rw [← hg] at k1 hz ⊢
  have HG := Lib.hid hg
  clear hbx hg
  generalize w.alloc (.cells (saidC s) 29) = w1 at *
  have c0 : w1.cell? ⟨g, 0, none⟩ = some (.int .i64 (14)) := (k1.cell 0).trans ((saidC_kind hs).trans (by rw [hk]))
  have hnum := refNumA_any (.slice none 0 0) [] (g + 1) (((14) : Int).toNat) w1 (Own.nil _ _ _) hz (by decide) (by decide)
  go_upto_region 2 with (first
    | (go_at_call 36; refine hnum.mono ?_; clear hnum; rintro e w2 ⟨v0, rfl, hown0, hb2⟩)
    | fail)
  clear c0
  have k2 := k1.below (hb2.mono (Nat.le_refl _)) (Nat.lt_succ_self g)
  have hA0 : BA w1 g s v0 0 [] w2 := ⟨hb2, k2, by rw [hk]; exact hown0, Nat.le_trans hz hb2.size⟩
  have c0 : w2.cell? ⟨g, 0, none⟩ = some (.int .i64 (14)) := (k2.cell 0).trans ((saidC_kind hs).trans (by rw [hk]))
  clear k1 k2 hown0 hb2
  go_upto_region 27 with fail
  have hld := loadSaidN hs hA0.src 11 (by decide)
  have hc := ba_num hs h512 hok hA0 11 2147483647 (by rw [hk]; rfl)
  clear hA0
  go_wp2_with (first
    | (guard_target =~ wpList _ _ _ (_ :: _) _ _; refine wpList_load rfl 2 (.tmp 155) rfl (.pointer (some ⟨g, offN 11, none⟩)) rfl hld ?_)
    | (go_at_call 36; refine hc.mono ?_; clear hc; rintro e W ⟨v9, rfl, hA⟩)
    | fail)
  have hA : BA w1 g s v0 0 [v9] W := hA
  go_ret
  refine ⟨_, rfl, ?_, ?_⟩
  · have h1 := hA.own.mono (Nat.le_succ g)
    have h2 := HG.out
    subst h2
    unfold body
    rw [show ∀ n, n = (flds s.kind).length → (flds s.kind).take n = flds s.kind from fun n e => by rw [e, List.take_length]] at h1
    · exact h1
    · rw [hk]; rfl
  · have h2 := HG.out
    subst h2
    exact hb.trans (hA.low.mono (Nat.le_succ _))
theorem refBody_any (s : Said) (hs : s.wf) (hr : Ms.right s = true) (h512 : s.route.length ≤ 512) (w : World) : Calls Tryz.prog 14 #[.agg (saidC s)] w fun e w' => ∃ v, e = .returned v ∧ Own 5 w' w.heap.size v (body s) ∧ Below w.heap.size w w' := by
  have hk := (right_facts hr).1
  have hok := right_lay hr
  have hK : s.kind = 1 ∨ s.kind = 2 ∨ s.kind = 3 ∨ s.kind = 4 ∨ s.kind = 5 ∨ s.kind = 6 ∨ s.kind = 7 ∨ s.kind = 8 ∨ s.kind = 9 ∨ s.kind = 10 ∨ s.kind = 11 ∨ s.kind = 12 ∨ s.kind = 13 ∨ s.kind = 14 := by omega
  rcases hK with h | h | h | h | h | h | h | h | h | h | h | h | h | h
  · exact rbody1 s hs h h512 hok w
  · exact rbody2 s hs h h512 hok w
  · exact rbody3 s hs h h512 hok w
  · exact rbody4 s hs h h512 hok w
  · exact rbody5 s hs h h512 hok w
  · exact rbody6 s hs h h512 hok w
  · exact rbody7 s hs h h512 hok w
  · exact rbody8 s hs h h512 hok w
  · exact rbody9 s hs h h512 hok w
  · exact rbody10 s hs h h512 hok w
  · exact rbody11 s hs h h512 hok w
  · exact rbody12 s hs h h512 hok w
  · exact rbody13 s hs h h512 hok w
  · exact rbody14 s hs h h512 hok w
end Go.Proofs.YtcajhdmppfiaeaaGreat
