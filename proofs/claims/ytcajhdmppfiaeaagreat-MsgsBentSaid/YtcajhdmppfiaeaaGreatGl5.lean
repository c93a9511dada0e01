/- Walks, msgs: the document's named. -/
import Derived.Test.YtcajhdmppfiaeaaGreatGl4
set_option linter.unusedVariables false
set_option linter.unusedSimpArgs false
namespace Go.Proofs.YtcajhdmppfiaeaaGreat
open Go.RowKit Ms
theorem newBlank (w : World) (k : Int) : ∃ w', (Instr.storeAt 29 (.pointer (some ⟨w.heap.size, 0, none⟩)) (.agg (saidC (Ms.blank k)))).run Tryz.prog (w.alloc (.cells (saidC (Ms.blank 0)) 29)) = .ok () w' ∧ Row w' w.heap.size 29 (saidC (Ms.blank k)) ∧ Later w w' := newSaid w (blank_wf k)
set_option maxRecDepth 100000 in
set_option maxHeartbeats 2000000 in
theorem named1 (s : Said) (hs : s.wf) (hk : s.kind = 1) (w : World) : Calls Tryz.prog 28 #[.agg (saidC s)] w fun e w' => e = .returned (.agg (saidC (nmd s 1))) ∧ Later w w' := by
  have k1 := Row.new w 29 (saidC s)
  have hbx := boxSaid hs w
  have hb1 := below_new w (.cells (saidC s) 29)
  go_enter Tryz.func28, Tryz.ntmps28
  go_upto_region 1 with (first
    | (with_reducible refine wpList_alloc rfl 29 rfl (allocSaid _) ?_)
    | fail)
  obtain ⟨g1, hg1⟩ : ∃ q, q = w.heap.size := ⟨_, rfl⟩
  have k1' := k1.alloc (.cells (saidC (Ms.blank 0)) 29)
  have k2 := Row.new (w.alloc (.cells (saidC s) 29)) 29 (saidC (Ms.blank 0))
  have hb2 := hb1.alloc hb1.size (.cells (saidC (Ms.blank 0)) 29)
  obtain ⟨g2, hg2⟩ : ∃ q, q = (w.alloc (.cells (saidC s) 29)).heap.size := ⟨_, rfl⟩
  have hg12 : g1 < g2 := by rw [hg1, hg2]; exact k1.lt
  clear hbx k1 hb1
  rw [← hg2] at k2
  rw [← hg1] at k1' hb2
  first | rw [← hg2] | skip
  rw [← hg1]
  generalize (w.alloc (.cells (saidC s) 29)).alloc (.cells (saidC (Ms.blank 0)) 29) = w2 at *
  have HG1 := Lib.hid hg1
  clear hg1 hg2
  obtain ⟨w3, hst, k3, hL3⟩ := newBlank w2 s.kind
  have c0 : w2.cell? ⟨g1, 0, none⟩ = some (.int .i64 s.kind) := (k1'.cell 0).trans (saidC_kind hs)
  have k23 := k2.lt
  rw [hk] at hst k3 c0
  have k13 := k1'.later hL3
  have hA0 : NA w g1 g2 w2.heap.size s (nmAt s (1)) 0 w3 := ⟨hb2.trans (hL3.below.mono (Nat.le_of_lt k1'.lt)), k13, k2.later hL3, blank_wf _, k3, hg12, k23⟩
  clear k1' hb2 hg12 k23 hL3 k3 k2
  go_upto_region 2 with (first
    | (guard_target =~ wpList _ _ _ (_ :: _) _ _; refine wpList_build rfl 29 _ rfl #[(0, .int .i64 (1))] (by simp only [List.map_toArray, List.map_cons, List.map_nil]; rfl) (buildSaidK _ _) ?_)
    | (with_reducible refine wpList_alloc rfl 29 rfl (allocSaid _) ?_)
    | (guard_target =~ wpList _ _ _ (_ :: _) _ _; refine wpList_store rfl 29 (.tmp 3) (.tmp 6) rfl (.pointer (some ⟨w2.heap.size, 0, none⟩)) (.agg (saidC (Ms.blank (1)))) rfl rfl hst ?_)
    | fail)
  clear hst c0
  obtain ⟨g3, hg3⟩ : ∃ q, q = w2.heap.size := ⟨_, rfl⟩
  rw [← hg3] at hA0 ⊢
  clear hg3
  have c0 : w3.cell? ⟨g1, 0, none⟩ = some (.int .i64 (1)) := (k13.cell 0).trans ((saidC_kind hs).trans (by rw [hk]))
  clear k13
  go_upto_region 4 with fail
  refine (wpIn_wide (n := 0)).1 ?_
  refine wpIn_region_chain wide_wide [.pointer (some ⟨g1, 1, none⟩), .agg (termsC s), .pointer (some ⟨g1, offN 5, none⟩), .int .i64 (s.n 5), .pointer (some ⟨g1, offN 6, none⟩), .int .i64 (s.n 6), .pointer (some ⟨g1, offH 3, none⟩), .agg (hC (s.h 3)), .pointer (some ⟨g1, offH 4, none⟩), .agg (hC (s.h 4)), .pointer (some ⟨g3, 1, none⟩), undef, .pointer (some ⟨g3, offN 5, none⟩), undef, .pointer (some ⟨g3, offN 6, none⟩), undef, .pointer (some ⟨g3, offH 3, none⟩), undef, .pointer (some ⟨g3, offH 4, none⟩)] [11, 13, 15, 17] (NA w g1 g2 g3 s (nmAt s 1)) (fun m W W' hL h => h.later hL) hA0 (by kernel_rfl) (by kernel_rfl) (by kernel_rfl) (by kernel_rfl) (by kernel_rfl) (by kernel_rfl) rfl (by decide) rfl ⟨?_, ?_, ?_, ?_, ?_, ?_, ?_, ?_, ?_, ?_, ?_, ?_, ?_, ?_, ?_, ?_, ?_, ?_, ?_, trivial⟩ ?_
  · exact chStep_val rfl (fun ac W m he hA => stepOk_want rfl (op_fieldAddr rfl (he.keep (.tmp 1) (by kernel_rfl)) (fieldSd 1 1 (by decide)) rfl))
  · exact chStep_val rfl (fun ac W m he hA => stepOk_want rfl (op_load rfl (show ac.eval (.tmp 11) = .pointer (some ⟨g1, 1, none⟩) from he.val 0 11 (by kernel_rfl) rfl rfl) (loadSaidT hs hA.src) rfl))
  · exact chStep_val rfl (fun ac W m he hA => stepOk_want rfl (op_fieldAddr rfl (he.keep (.tmp 1) (by kernel_rfl)) (fieldSd 2 102 (by decide)) rfl))
  · exact chStep_val rfl (fun ac W m he hA => stepOk_want rfl (op_load rfl (show ac.eval (.tmp 13) = .pointer (some ⟨g1, offN 5, none⟩) from he.val 2 13 (by kernel_rfl) rfl rfl) (loadSaidN hs hA.src 5 (by decide)) rfl))
  · exact chStep_val rfl (fun ac W m he hA => stepOk_want rfl (op_fieldAddr rfl (he.keep (.tmp 1) (by kernel_rfl)) (fieldSd 3 103 (by decide)) rfl))
  · exact chStep_val rfl (fun ac W m he hA => stepOk_want rfl (op_load rfl (show ac.eval (.tmp 15) = .pointer (some ⟨g1, offN 6, none⟩) from he.val 4 15 (by kernel_rfl) rfl rfl) (loadSaidN hs hA.src 6 (by decide)) rfl))
  · exact chStep_val rfl (fun ac W m he hA => stepOk_want rfl (op_fieldAddr rfl (he.keep (.tmp 1) (by kernel_rfl)) (fieldSd 4 104 (by decide)) rfl))
  · exact chStep_val rfl (fun ac W m he hA => stepOk_want rfl (op_load rfl (show ac.eval (.tmp 17) = .pointer (some ⟨g1, offH 3, none⟩) from he.val 6 17 (by kernel_rfl) rfl rfl) (loadSaidH hs hA.src 3 (by decide)) rfl))
  · exact chStep_val rfl (fun ac W m he hA => stepOk_want rfl (op_fieldAddr rfl (he.keep (.tmp 1) (by kernel_rfl)) (fieldSd 5 136 (by decide)) rfl))
  · exact chStep_val rfl (fun ac W m he hA => stepOk_want rfl (op_load rfl (show ac.eval (.tmp 19) = .pointer (some ⟨g1, offH 4, none⟩) from he.val 8 19 (by kernel_rfl) rfl rfl) (loadSaidH hs hA.src 4 (by decide)) rfl))
  · exact chStep_val rfl (fun ac W m he hA => stepOk_want rfl (op_fieldAddr rfl (he.keep (.tmp 3) (by kernel_rfl)) (fieldSd 1 1 (by decide)) rfl))
  · refine chStep_put (k := 0) rfl (.inl rfl) (fun ac W he hA => ⟨rfl, ?_⟩)
    obtain ⟨W', hr, hA'⟩ := na_t hA hs rfl
    exact op_storeK rfl (show ac.eval (.tmp 21) = .pointer (some ⟨g3, 1, none⟩) from he.val 10 21 (by kernel_rfl) rfl rfl) (show ac.eval (.tmp 12) = .agg (termsC s) from he.val 1 12 (by kernel_rfl) rfl rfl) hr ⟨undef, rfl, hA'⟩
  · exact chStep_val rfl (fun ac W m he hA => stepOk_want rfl (op_fieldAddr rfl (he.keep (.tmp 3) (by kernel_rfl)) (fieldSd 2 102 (by decide)) rfl))
  · refine chStep_put (k := 1) rfl (.inr (by kernel_rfl)) (fun ac W he hA => ⟨rfl, ?_⟩)
    obtain ⟨W', hr, hA'⟩ := na_n hA 5 (by decide) rfl
    exact op_storeK rfl (show ac.eval (.tmp 22) = .pointer (some ⟨g3, offN 5, none⟩) from he.val 12 22 (by kernel_rfl) rfl rfl) (show ac.eval (.tmp 14) = .int .i64 (s.n 5) from he.val 3 14 (by kernel_rfl) rfl rfl) hr ⟨undef, rfl, hA'⟩
  · exact chStep_val rfl (fun ac W m he hA => stepOk_want rfl (op_fieldAddr rfl (he.keep (.tmp 3) (by kernel_rfl)) (fieldSd 3 103 (by decide)) rfl))
  · refine chStep_put (k := 2) rfl (.inr (by kernel_rfl)) (fun ac W he hA => ⟨rfl, ?_⟩)
    obtain ⟨W', hr, hA'⟩ := na_n hA 6 (by decide) rfl
    exact op_storeK rfl (show ac.eval (.tmp 23) = .pointer (some ⟨g3, offN 6, none⟩) from he.val 14 23 (by kernel_rfl) rfl rfl) (show ac.eval (.tmp 16) = .int .i64 (s.n 6) from he.val 5 16 (by kernel_rfl) rfl rfl) hr ⟨undef, rfl, hA'⟩
  · exact chStep_val rfl (fun ac W m he hA => stepOk_want rfl (op_fieldAddr rfl (he.keep (.tmp 3) (by kernel_rfl)) (fieldSd 4 104 (by decide)) rfl))
  · refine chStep_put (k := 3) rfl (.inr (by kernel_rfl)) (fun ac W he hA => ⟨rfl, ?_⟩)
    obtain ⟨W', hr, hA'⟩ := na_h hA hs 3 (by decide) rfl
    exact op_storeK rfl (show ac.eval (.tmp 24) = .pointer (some ⟨g3, offH 3, none⟩) from he.val 16 24 (by kernel_rfl) rfl rfl) (show ac.eval (.tmp 18) = .agg (hC (s.h 3)) from he.val 7 18 (by kernel_rfl) rfl rfl) hr ⟨undef, rfl, hA'⟩
  · exact chStep_val rfl (fun ac W m he hA => stepOk_want rfl (op_fieldAddr rfl (he.keep (.tmp 3) (by kernel_rfl)) (fieldSd 5 136 (by decide)) rfl))
  intro xs W hA hx hk hgt
  have hA : NA w g1 g2 g3 s (nmAt s 1) 4 W := hA
  obtain ⟨W', hr, hA'⟩ := na_h hA hs 4 (by decide) rfl
  refine last_store rfl rfl ((hgt 18 25 (by decide) (by kernel_rfl)).trans (show xs 18 = .pointer (some ⟨g3, offH 4, none⟩) from hx 18 (by decide) rfl)) ((hgt 9 20 (by decide) (by kernel_rfl)).trans (show xs 9 = .agg (hC (s.h 4)) from hx 9 (by decide) rfl)) hr ?_
  clear hr hA hA0 hx hk hgt
  simp only [initL, lastL, putL, Nat.reduceAdd, Act.put, List.setIfInBounds_toArray, List.set_cons_succ, List.set_cons_zero]
  have hld := loadSaid hA'.wf hA'.row
  obtain ⟨W2, hst, hr2, hgw⟩ := storeSaid (blank_wf 0) hA'.wf hA'.res
  have hb9 : Below g1 w W2 := hA'.low.grown hgw (Nat.le_of_lt hA'.src.lt) (fun j e => by injection e with e; have := hA'.lt; omega)
  have hz9 := saidC_size hA'.wf
  clear hA'
  go_wp2_with (first
    | (guard_target =~ wpList _ _ _ (_ :: _) _ _; refine wpList_load rfl 29 (.tmp 3) rfl (.pointer (some ⟨g3, 0, none⟩)) rfl hld ?_)
    | (guard_target =~ wpList _ _ _ (_ :: _) _ _; refine wpList_store rfl 29 (.tmp 2) (.tmp 126) rfl (.pointer (some ⟨g2, 0, none⟩)) _ rfl rfl hst ?_)
    | fail)
  exact bodyPost_ret (results_cell1 rfl _ _ g2 29 _ _ rfl hr2 Tryz.underlying29 rfl (by rw [hz9]; exact infoSaid)) rfl ⟨rfl, by have h9 := HG1.out; subst h9; exact hb9⟩
set_option maxRecDepth 100000 in
set_option maxHeartbeats 2000000 in
theorem named2 (s : Said) (hs : s.wf) (hk : s.kind = 2) (w : World) : Calls Tryz.prog 28 #[.agg (saidC s)] w fun e w' => e = .returned (.agg (saidC (nmd s 2))) ∧ Later w w' := by
  have k1 := Row.new w 29 (saidC s)
  have hbx := boxSaid hs w
  have hb1 := below_new w (.cells (saidC s) 29)
  go_enter Tryz.func28, Tryz.ntmps28
  go_upto_region 1 with (first
    | (with_reducible refine wpList_alloc rfl 29 rfl (allocSaid _) ?_)
    | fail)
  obtain ⟨g1, hg1⟩ : ∃ q, q = w.heap.size := ⟨_, rfl⟩
  have k1' := k1.alloc (.cells (saidC (Ms.blank 0)) 29)
  have k2 := Row.new (w.alloc (.cells (saidC s) 29)) 29 (saidC (Ms.blank 0))
  have hb2 := hb1.alloc hb1.size (.cells (saidC (Ms.blank 0)) 29)
  obtain ⟨g2, hg2⟩ : ∃ q, q = (w.alloc (.cells (saidC s) 29)).heap.size := ⟨_, rfl⟩
  have hg12 : g1 < g2 := by rw [hg1, hg2]; exact k1.lt
  clear hbx k1 hb1
  rw [← hg2] at k2
  rw [← hg1] at k1' hb2
  first | rw [← hg2] | skip
  rw [← hg1]
  generalize (w.alloc (.cells (saidC s) 29)).alloc (.cells (saidC (Ms.blank 0)) 29) = w2 at *
  have HG1 := Lib.hid hg1
  clear hg1 hg2
  obtain ⟨w3, hst, k3, hL3⟩ := newBlank w2 s.kind
  have c0 : w2.cell? ⟨g1, 0, none⟩ = some (.int .i64 s.kind) := (k1'.cell 0).trans (saidC_kind hs)
  have k23 := k2.lt
  rw [hk] at hst k3 c0
  have k13 := k1'.later hL3
  have hA0 : NA w g1 g2 w2.heap.size s (nmAt s (2)) 0 w3 := ⟨hb2.trans (hL3.below.mono (Nat.le_of_lt k1'.lt)), k13, k2.later hL3, blank_wf _, k3, hg12, k23⟩
  clear k1' hb2 hg12 k23 hL3 k3 k2
  go_upto_region 2 with (first
    | (guard_target =~ wpList _ _ _ (_ :: _) _ _; refine wpList_build rfl 29 _ rfl #[(0, .int .i64 (2))] (by simp only [List.map_toArray, List.map_cons, List.map_nil]; rfl) (buildSaidK _ _) ?_)
    | (with_reducible refine wpList_alloc rfl 29 rfl (allocSaid _) ?_)
    | (guard_target =~ wpList _ _ _ (_ :: _) _ _; refine wpList_store rfl 29 (.tmp 3) (.tmp 6) rfl (.pointer (some ⟨w2.heap.size, 0, none⟩)) (.agg (saidC (Ms.blank (2)))) rfl rfl hst ?_)
    | fail)
  clear hst c0
  obtain ⟨g3, hg3⟩ : ∃ q, q = w2.heap.size := ⟨_, rfl⟩
  rw [← hg3] at hA0 ⊢
  clear hg3
  have c0 : w3.cell? ⟨g1, 0, none⟩ = some (.int .i64 (2)) := (k13.cell 0).trans ((saidC_kind hs).trans (by rw [hk]))
  clear k13
  go_upto_region 6 with fail
  refine (wpIn_wide (n := 0)).1 ?_
  refine wpIn_region_chain wide_wide [.pointer (some ⟨g1, offH 5, none⟩), .agg (hC (s.h 5)), .pointer (some ⟨g1, offH 3, none⟩), .agg (hC (s.h 3)), .pointer (some ⟨g1, offH 4, none⟩), .agg (hC (s.h 4)), .pointer (some ⟨g3, offH 5, none⟩), undef, .pointer (some ⟨g3, offH 3, none⟩), undef, .pointer (some ⟨g3, offH 4, none⟩)] [7, 9] (NA w g1 g2 g3 s (nmAt s 2)) (fun m W W' hL h => h.later hL) hA0 (by kernel_rfl) (by kernel_rfl) (by kernel_rfl) (by kernel_rfl) (by kernel_rfl) (by kernel_rfl) rfl (by decide) rfl ⟨?_, ?_, ?_, ?_, ?_, ?_, ?_, ?_, ?_, ?_, ?_, trivial⟩ ?_
  · exact chStep_val rfl (fun ac W m he hA => stepOk_want rfl (op_fieldAddr rfl (he.keep (.tmp 1) (by kernel_rfl)) (fieldSd 6 168 (by decide)) rfl))
  · exact chStep_val rfl (fun ac W m he hA => stepOk_want rfl (op_load rfl (show ac.eval (.tmp 28) = .pointer (some ⟨g1, offH 5, none⟩) from he.val 0 28 (by kernel_rfl) rfl rfl) (loadSaidH hs hA.src 5 (by decide)) rfl))
  · exact chStep_val rfl (fun ac W m he hA => stepOk_want rfl (op_fieldAddr rfl (he.keep (.tmp 1) (by kernel_rfl)) (fieldSd 4 104 (by decide)) rfl))
  · exact chStep_val rfl (fun ac W m he hA => stepOk_want rfl (op_load rfl (show ac.eval (.tmp 30) = .pointer (some ⟨g1, offH 3, none⟩) from he.val 2 30 (by kernel_rfl) rfl rfl) (loadSaidH hs hA.src 3 (by decide)) rfl))
  · exact chStep_val rfl (fun ac W m he hA => stepOk_want rfl (op_fieldAddr rfl (he.keep (.tmp 1) (by kernel_rfl)) (fieldSd 5 136 (by decide)) rfl))
  · exact chStep_val rfl (fun ac W m he hA => stepOk_want rfl (op_load rfl (show ac.eval (.tmp 32) = .pointer (some ⟨g1, offH 4, none⟩) from he.val 4 32 (by kernel_rfl) rfl rfl) (loadSaidH hs hA.src 4 (by decide)) rfl))
  · exact chStep_val rfl (fun ac W m he hA => stepOk_want rfl (op_fieldAddr rfl (he.keep (.tmp 3) (by kernel_rfl)) (fieldSd 6 168 (by decide)) rfl))
  · refine chStep_put (k := 0) rfl (.inl rfl) (fun ac W he hA => ⟨rfl, ?_⟩)
    obtain ⟨W', hr, hA'⟩ := na_h hA hs 5 (by decide) rfl
    exact op_storeK rfl (show ac.eval (.tmp 34) = .pointer (some ⟨g3, offH 5, none⟩) from he.val 6 34 (by kernel_rfl) rfl rfl) (show ac.eval (.tmp 29) = .agg (hC (s.h 5)) from he.val 1 29 (by kernel_rfl) rfl rfl) hr ⟨undef, rfl, hA'⟩
  · exact chStep_val rfl (fun ac W m he hA => stepOk_want rfl (op_fieldAddr rfl (he.keep (.tmp 3) (by kernel_rfl)) (fieldSd 4 104 (by decide)) rfl))
  · refine chStep_put (k := 1) rfl (.inr (by kernel_rfl)) (fun ac W he hA => ⟨rfl, ?_⟩)
    obtain ⟨W', hr, hA'⟩ := na_h hA hs 3 (by decide) rfl
    exact op_storeK rfl (show ac.eval (.tmp 35) = .pointer (some ⟨g3, offH 3, none⟩) from he.val 8 35 (by kernel_rfl) rfl rfl) (show ac.eval (.tmp 31) = .agg (hC (s.h 3)) from he.val 3 31 (by kernel_rfl) rfl rfl) hr ⟨undef, rfl, hA'⟩
  · exact chStep_val rfl (fun ac W m he hA => stepOk_want rfl (op_fieldAddr rfl (he.keep (.tmp 3) (by kernel_rfl)) (fieldSd 5 136 (by decide)) rfl))
  intro xs W hA hx hk hgt
  have hA : NA w g1 g2 g3 s (nmAt s 2) 2 W := hA
  obtain ⟨W', hr, hA'⟩ := na_h hA hs 4 (by decide) rfl
  refine last_store rfl rfl ((hgt 10 36 (by decide) (by kernel_rfl)).trans (show xs 10 = .pointer (some ⟨g3, offH 4, none⟩) from hx 10 (by decide) rfl)) ((hgt 5 33 (by decide) (by kernel_rfl)).trans (show xs 5 = .agg (hC (s.h 4)) from hx 5 (by decide) rfl)) hr ?_
  clear hr hA hA0 hx hk hgt
  simp only [initL, lastL, putL, Nat.reduceAdd, Act.put, List.setIfInBounds_toArray, List.set_cons_succ, List.set_cons_zero]
  have hld := loadSaid hA'.wf hA'.row
  obtain ⟨W2, hst, hr2, hgw⟩ := storeSaid (blank_wf 0) hA'.wf hA'.res
  have hb9 : Below g1 w W2 := hA'.low.grown hgw (Nat.le_of_lt hA'.src.lt) (fun j e => by injection e with e; have := hA'.lt; omega)
  have hz9 := saidC_size hA'.wf
  clear hA'
  go_wp2_with (first
    | (guard_target =~ wpList _ _ _ (_ :: _) _ _; refine wpList_load rfl 29 (.tmp 3) rfl (.pointer (some ⟨g3, 0, none⟩)) rfl hld ?_)
    | (guard_target =~ wpList _ _ _ (_ :: _) _ _; refine wpList_store rfl 29 (.tmp 2) (.tmp 126) rfl (.pointer (some ⟨g2, 0, none⟩)) _ rfl rfl hst ?_)
    | fail)
  exact bodyPost_ret (results_cell1 rfl _ _ g2 29 _ _ rfl hr2 Tryz.underlying29 rfl (by rw [hz9]; exact infoSaid)) rfl ⟨rfl, by have h9 := HG1.out; subst h9; exact hb9⟩
set_option maxRecDepth 100000 in
set_option maxHeartbeats 2000000 in
theorem named3 (s : Said) (hs : s.wf) (hk : s.kind = 3) (w : World) : Calls Tryz.prog 28 #[.agg (saidC s)] w fun e w' => e = .returned (.agg (saidC (nmd s 3))) ∧ Later w w' := by
  have k1 := Row.new w 29 (saidC s)
  have hbx := boxSaid hs w
  have hb1 := below_new w (.cells (saidC s) 29)
  go_enter Tryz.func28, Tryz.ntmps28
  go_upto_region 1 with (first
    | (with_reducible refine wpList_alloc rfl 29 rfl (allocSaid _) ?_)
    | fail)
  obtain ⟨g1, hg1⟩ : ∃ q, q = w.heap.size := ⟨_, rfl⟩
  have k1' := k1.alloc (.cells (saidC (Ms.blank 0)) 29)
  have k2 := Row.new (w.alloc (.cells (saidC s) 29)) 29 (saidC (Ms.blank 0))
  have hb2 := hb1.alloc hb1.size (.cells (saidC (Ms.blank 0)) 29)
  obtain ⟨g2, hg2⟩ : ∃ q, q = (w.alloc (.cells (saidC s) 29)).heap.size := ⟨_, rfl⟩
  have hg12 : g1 < g2 := by rw [hg1, hg2]; exact k1.lt
  clear hbx k1 hb1
  rw [← hg2] at k2
  rw [← hg1] at k1' hb2
  first | rw [← hg2] | skip
  rw [← hg1]
  generalize (w.alloc (.cells (saidC s) 29)).alloc (.cells (saidC (Ms.blank 0)) 29) = w2 at *
  have HG1 := Lib.hid hg1
  clear hg1 hg2
  obtain ⟨w3, hst, k3, hL3⟩ := newBlank w2 s.kind
  have c0 : w2.cell? ⟨g1, 0, none⟩ = some (.int .i64 s.kind) := (k1'.cell 0).trans (saidC_kind hs)
  have k23 := k2.lt
  rw [hk] at hst k3 c0
  have k13 := k1'.later hL3
  have hA0 : NA w g1 g2 w2.heap.size s (nmAt s (3)) 0 w3 := ⟨hb2.trans (hL3.below.mono (Nat.le_of_lt k1'.lt)), k13, k2.later hL3, blank_wf _, k3, hg12, k23⟩
  clear k1' hb2 hg12 k23 hL3 k3 k2
  go_upto_region 2 with (first
    | (guard_target =~ wpList _ _ _ (_ :: _) _ _; refine wpList_build rfl 29 _ rfl #[(0, .int .i64 (3))] (by simp only [List.map_toArray, List.map_cons, List.map_nil]; rfl) (buildSaidK _ _) ?_)
    | (with_reducible refine wpList_alloc rfl 29 rfl (allocSaid _) ?_)
    | (guard_target =~ wpList _ _ _ (_ :: _) _ _; refine wpList_store rfl 29 (.tmp 3) (.tmp 6) rfl (.pointer (some ⟨w2.heap.size, 0, none⟩)) (.agg (saidC (Ms.blank (3)))) rfl rfl hst ?_)
    | fail)
  clear hst c0
  obtain ⟨g3, hg3⟩ : ∃ q, q = w2.heap.size := ⟨_, rfl⟩
  rw [← hg3] at hA0 ⊢
  clear hg3
  have c0 : w3.cell? ⟨g1, 0, none⟩ = some (.int .i64 (3)) := (k13.cell 0).trans ((saidC_kind hs).trans (by rw [hk]))
  clear k13
  go_upto_region 8 with fail
  refine (wpIn_wide (n := 0)).1 ?_
  refine wpIn_region_chain wide_wide [.pointer (some ⟨g1, offH 6, none⟩), .agg (hC (s.h 6)), .pointer (some ⟨g1, offN 9, none⟩), .int .i64 (s.n 9), .pointer (some ⟨g1, offH 7, none⟩), .agg (hC (s.h 7)), .pointer (some ⟨g3, offH 6, none⟩), undef, .pointer (some ⟨g3, offN 9, none⟩), undef, .pointer (some ⟨g3, offH 7, none⟩)] [7, 9] (NA w g1 g2 g3 s (nmAt s 3)) (fun m W W' hL h => h.later hL) hA0 (by kernel_rfl) (by kernel_rfl) (by kernel_rfl) (by kernel_rfl) (by kernel_rfl) (by kernel_rfl) rfl (by decide) rfl ⟨?_, ?_, ?_, ?_, ?_, ?_, ?_, ?_, ?_, ?_, ?_, trivial⟩ ?_
  · exact chStep_val rfl (fun ac W m he hA => stepOk_want rfl (op_fieldAddr rfl (he.keep (.tmp 1) (by kernel_rfl)) (fieldSd 7 200 (by decide)) rfl))
  · exact chStep_val rfl (fun ac W m he hA => stepOk_want rfl (op_load rfl (show ac.eval (.tmp 39) = .pointer (some ⟨g1, offH 6, none⟩) from he.val 0 39 (by kernel_rfl) rfl rfl) (loadSaidH hs hA.src 6 (by decide)) rfl))
  · exact chStep_val rfl (fun ac W m he hA => stepOk_want rfl (op_fieldAddr rfl (he.keep (.tmp 1) (by kernel_rfl)) (fieldSd 12 298 (by decide)) rfl))
  · exact chStep_val rfl (fun ac W m he hA => stepOk_want rfl (op_load rfl (show ac.eval (.tmp 41) = .pointer (some ⟨g1, offN 9, none⟩) from he.val 2 41 (by kernel_rfl) rfl rfl) (loadSaidN hs hA.src 9 (by decide)) rfl))
  · exact chStep_val rfl (fun ac W m he hA => stepOk_want rfl (op_fieldAddr rfl (he.keep (.tmp 1) (by kernel_rfl)) (fieldSd 8 232 (by decide)) rfl))
  · exact chStep_val rfl (fun ac W m he hA => stepOk_want rfl (op_load rfl (show ac.eval (.tmp 43) = .pointer (some ⟨g1, offH 7, none⟩) from he.val 4 43 (by kernel_rfl) rfl rfl) (loadSaidH hs hA.src 7 (by decide)) rfl))
  · exact chStep_val rfl (fun ac W m he hA => stepOk_want rfl (op_fieldAddr rfl (he.keep (.tmp 3) (by kernel_rfl)) (fieldSd 7 200 (by decide)) rfl))
  · refine chStep_put (k := 0) rfl (.inl rfl) (fun ac W he hA => ⟨rfl, ?_⟩)
    obtain ⟨W', hr, hA'⟩ := na_h hA hs 6 (by decide) rfl
    exact op_storeK rfl (show ac.eval (.tmp 45) = .pointer (some ⟨g3, offH 6, none⟩) from he.val 6 45 (by kernel_rfl) rfl rfl) (show ac.eval (.tmp 40) = .agg (hC (s.h 6)) from he.val 1 40 (by kernel_rfl) rfl rfl) hr ⟨undef, rfl, hA'⟩
  · exact chStep_val rfl (fun ac W m he hA => stepOk_want rfl (op_fieldAddr rfl (he.keep (.tmp 3) (by kernel_rfl)) (fieldSd 12 298 (by decide)) rfl))
  · refine chStep_put (k := 1) rfl (.inr (by kernel_rfl)) (fun ac W he hA => ⟨rfl, ?_⟩)
    obtain ⟨W', hr, hA'⟩ := na_n hA 9 (by decide) rfl
    exact op_storeK rfl (show ac.eval (.tmp 46) = .pointer (some ⟨g3, offN 9, none⟩) from he.val 8 46 (by kernel_rfl) rfl rfl) (show ac.eval (.tmp 42) = .int .i64 (s.n 9) from he.val 3 42 (by kernel_rfl) rfl rfl) hr ⟨undef, rfl, hA'⟩
  · exact chStep_val rfl (fun ac W m he hA => stepOk_want rfl (op_fieldAddr rfl (he.keep (.tmp 3) (by kernel_rfl)) (fieldSd 8 232 (by decide)) rfl))
  intro xs W hA hx hk hgt
  have hA : NA w g1 g2 g3 s (nmAt s 3) 2 W := hA
  obtain ⟨W', hr, hA'⟩ := na_h hA hs 7 (by decide) rfl
  refine last_store rfl rfl ((hgt 10 47 (by decide) (by kernel_rfl)).trans (show xs 10 = .pointer (some ⟨g3, offH 7, none⟩) from hx 10 (by decide) rfl)) ((hgt 5 44 (by decide) (by kernel_rfl)).trans (show xs 5 = .agg (hC (s.h 7)) from hx 5 (by decide) rfl)) hr ?_
  clear hr hA hA0 hx hk hgt
  simp only [initL, lastL, putL, Nat.reduceAdd, Act.put, List.setIfInBounds_toArray, List.set_cons_succ, List.set_cons_zero]
  have hld := loadSaid hA'.wf hA'.row
  obtain ⟨W2, hst, hr2, hgw⟩ := storeSaid (blank_wf 0) hA'.wf hA'.res
  have hb9 : Below g1 w W2 := hA'.low.grown hgw (Nat.le_of_lt hA'.src.lt) (fun j e => by injection e with e; have := hA'.lt; omega)
  have hz9 := saidC_size hA'.wf
  clear hA'
  go_wp2_with (first
    | (guard_target =~ wpList _ _ _ (_ :: _) _ _; refine wpList_load rfl 29 (.tmp 3) rfl (.pointer (some ⟨g3, 0, none⟩)) rfl hld ?_)
    | (guard_target =~ wpList _ _ _ (_ :: _) _ _; refine wpList_store rfl 29 (.tmp 2) (.tmp 126) rfl (.pointer (some ⟨g2, 0, none⟩)) _ rfl rfl hst ?_)
    | fail)
  exact bodyPost_ret (results_cell1 rfl _ _ g2 29 _ _ rfl hr2 Tryz.underlying29 rfl (by rw [hz9]; exact infoSaid)) rfl ⟨rfl, by have h9 := HG1.out; subst h9; exact hb9⟩
set_option maxRecDepth 100000 in
set_option maxHeartbeats 2000000 in
theorem named6 (s : Said) (hs : s.wf) (hk : s.kind = 6) (w : World) : Calls Tryz.prog 28 #[.agg (saidC s)] w fun e w' => e = .returned (.agg (saidC (nmd s 6))) ∧ Later w w' := by
  have k1 := Row.new w 29 (saidC s)
  have hbx := boxSaid hs w
  have hb1 := below_new w (.cells (saidC s) 29)
  go_enter Tryz.func28, Tryz.ntmps28
  go_upto_region 1 with (first
    | (with_reducible refine wpList_alloc rfl 29 rfl (allocSaid _) ?_)
    | fail)
  obtain ⟨g1, hg1⟩ : ∃ q, q = w.heap.size := ⟨_, rfl⟩
  have k1' := k1.alloc (.cells (saidC (Ms.blank 0)) 29)
  have k2 := Row.new (w.alloc (.cells (saidC s) 29)) 29 (saidC (Ms.blank 0))
  have hb2 := hb1.alloc hb1.size (.cells (saidC (Ms.blank 0)) 29)
  obtain ⟨g2, hg2⟩ : ∃ q, q = (w.alloc (.cells (saidC s) 29)).heap.size := ⟨_, rfl⟩
  have hg12 : g1 < g2 := by rw [hg1, hg2]; exact k1.lt
  clear hbx k1 hb1
  rw [← hg2] at k2
  rw [← hg1] at k1' hb2
  first | rw [← hg2] | skip
  rw [← hg1]
  generalize (w.alloc (.cells (saidC s) 29)).alloc (.cells (saidC (Ms.blank 0)) 29) = w2 at *
  have HG1 := Lib.hid hg1
  clear hg1 hg2
  obtain ⟨w3, hst, k3, hL3⟩ := newBlank w2 s.kind
  have c0 : w2.cell? ⟨g1, 0, none⟩ = some (.int .i64 s.kind) := (k1'.cell 0).trans (saidC_kind hs)
  have k23 := k2.lt
  rw [hk] at hst k3 c0
  have k13 := k1'.later hL3
  have hA0 : NA w g1 g2 w2.heap.size s (nmAt s (6)) 0 w3 := ⟨hb2.trans (hL3.below.mono (Nat.le_of_lt k1'.lt)), k13, k2.later hL3, blank_wf _, k3, hg12, k23⟩
  clear k1' hb2 hg12 k23 hL3 k3 k2
  go_upto_region 2 with (first
    | (guard_target =~ wpList _ _ _ (_ :: _) _ _; refine wpList_build rfl 29 _ rfl #[(0, .int .i64 (6))] (by simp only [List.map_toArray, List.map_cons, List.map_nil]; rfl) (buildSaidK _ _) ?_)
    | (with_reducible refine wpList_alloc rfl 29 rfl (allocSaid _) ?_)
    | (guard_target =~ wpList _ _ _ (_ :: _) _ _; refine wpList_store rfl 29 (.tmp 3) (.tmp 6) rfl (.pointer (some ⟨w2.heap.size, 0, none⟩)) (.agg (saidC (Ms.blank (6)))) rfl rfl hst ?_)
    | fail)
  clear hst c0
  obtain ⟨g3, hg3⟩ : ∃ q, q = w2.heap.size := ⟨_, rfl⟩
  rw [← hg3] at hA0 ⊢
  clear hg3
  have c0 : w3.cell? ⟨g1, 0, none⟩ = some (.int .i64 (6)) := (k13.cell 0).trans ((saidC_kind hs).trans (by rw [hk]))
  clear k13
  go_upto_region 12 with fail
  refine (wpIn_wide (n := 0)).1 ?_
  refine wpIn_region_chain wide_wide [.pointer (some ⟨g1, offN 7, none⟩), .int .i64 (s.n 7), .pointer (some ⟨g1, offN 6, none⟩), .int .i64 (s.n 6), .pointer (some ⟨g1, offH 6, none⟩), .agg (hC (s.h 6)), .pointer (some ⟨g1, offN 10, none⟩), .int .i64 (s.n 10), .pointer (some ⟨g1, 301, none⟩), .string ⟨s.route.toArray⟩, .pointer (some ⟨g3, offN 7, none⟩), undef, .pointer (some ⟨g3, offN 6, none⟩), undef, .pointer (some ⟨g3, offH 6, none⟩), undef, .pointer (some ⟨g3, offN 10, none⟩), undef, .pointer (some ⟨g3, 301, none⟩)] [11, 13, 15, 17] (NA w g1 g2 g3 s (nmAt s 6)) (fun m W W' hL h => h.later hL) hA0 (by kernel_rfl) (by kernel_rfl) (by kernel_rfl) (by kernel_rfl) (by kernel_rfl) (by kernel_rfl) rfl (by decide) rfl ⟨?_, ?_, ?_, ?_, ?_, ?_, ?_, ?_, ?_, ?_, ?_, ?_, ?_, ?_, ?_, ?_, ?_, ?_, ?_, trivial⟩ ?_
  · exact chStep_val rfl (fun ac W m he hA => stepOk_want rfl (op_fieldAddr rfl (he.keep (.tmp 1) (by kernel_rfl)) (fieldSd 10 296 (by decide)) rfl))
  · exact chStep_val rfl (fun ac W m he hA => stepOk_want rfl (op_load rfl (show ac.eval (.tmp 55) = .pointer (some ⟨g1, offN 7, none⟩) from he.val 0 55 (by kernel_rfl) rfl rfl) (loadSaidN hs hA.src 7 (by decide)) rfl))
  · exact chStep_val rfl (fun ac W m he hA => stepOk_want rfl (op_fieldAddr rfl (he.keep (.tmp 1) (by kernel_rfl)) (fieldSd 3 103 (by decide)) rfl))
  · exact chStep_val rfl (fun ac W m he hA => stepOk_want rfl (op_load rfl (show ac.eval (.tmp 57) = .pointer (some ⟨g1, offN 6, none⟩) from he.val 2 57 (by kernel_rfl) rfl rfl) (loadSaidN hs hA.src 6 (by decide)) rfl))
  · exact chStep_val rfl (fun ac W m he hA => stepOk_want rfl (op_fieldAddr rfl (he.keep (.tmp 1) (by kernel_rfl)) (fieldSd 7 200 (by decide)) rfl))
  · exact chStep_val rfl (fun ac W m he hA => stepOk_want rfl (op_load rfl (show ac.eval (.tmp 59) = .pointer (some ⟨g1, offH 6, none⟩) from he.val 4 59 (by kernel_rfl) rfl rfl) (loadSaidH hs hA.src 6 (by decide)) rfl))
  · exact chStep_val rfl (fun ac W m he hA => stepOk_want rfl (op_fieldAddr rfl (he.keep (.tmp 1) (by kernel_rfl)) (fieldSd 13 299 (by decide)) rfl))
  · exact chStep_val rfl (fun ac W m he hA => stepOk_want rfl (op_load rfl (show ac.eval (.tmp 61) = .pointer (some ⟨g1, offN 10, none⟩) from he.val 6 61 (by kernel_rfl) rfl rfl) (loadSaidN hs hA.src 10 (by decide)) rfl))
  · exact chStep_val rfl (fun ac W m he hA => stepOk_want rfl (op_fieldAddr rfl (he.keep (.tmp 1) (by kernel_rfl)) (fieldSd 15 301 (by decide)) rfl))
  · exact chStep_val rfl (fun ac W m he hA => stepOk_want rfl (op_load rfl (show ac.eval (.tmp 63) = .pointer (some ⟨g1, 301, none⟩) from he.val 8 63 (by kernel_rfl) rfl rfl) (loadSaidR hs hA.src) rfl))
  · exact chStep_val rfl (fun ac W m he hA => stepOk_want rfl (op_fieldAddr rfl (he.keep (.tmp 3) (by kernel_rfl)) (fieldSd 10 296 (by decide)) rfl))
  · refine chStep_put (k := 0) rfl (.inl rfl) (fun ac W he hA => ⟨rfl, ?_⟩)
    obtain ⟨W', hr, hA'⟩ := na_n hA 7 (by decide) rfl
    exact op_storeK rfl (show ac.eval (.tmp 65) = .pointer (some ⟨g3, offN 7, none⟩) from he.val 10 65 (by kernel_rfl) rfl rfl) (show ac.eval (.tmp 56) = .int .i64 (s.n 7) from he.val 1 56 (by kernel_rfl) rfl rfl) hr ⟨undef, rfl, hA'⟩
  · exact chStep_val rfl (fun ac W m he hA => stepOk_want rfl (op_fieldAddr rfl (he.keep (.tmp 3) (by kernel_rfl)) (fieldSd 3 103 (by decide)) rfl))
  · refine chStep_put (k := 1) rfl (.inr (by kernel_rfl)) (fun ac W he hA => ⟨rfl, ?_⟩)
    obtain ⟨W', hr, hA'⟩ := na_n hA 6 (by decide) rfl
    exact op_storeK rfl (show ac.eval (.tmp 66) = .pointer (some ⟨g3, offN 6, none⟩) from he.val 12 66 (by kernel_rfl) rfl rfl) (show ac.eval (.tmp 58) = .int .i64 (s.n 6) from he.val 3 58 (by kernel_rfl) rfl rfl) hr ⟨undef, rfl, hA'⟩
  · exact chStep_val rfl (fun ac W m he hA => stepOk_want rfl (op_fieldAddr rfl (he.keep (.tmp 3) (by kernel_rfl)) (fieldSd 7 200 (by decide)) rfl))
  · refine chStep_put (k := 2) rfl (.inr (by kernel_rfl)) (fun ac W he hA => ⟨rfl, ?_⟩)
    obtain ⟨W', hr, hA'⟩ := na_h hA hs 6 (by decide) rfl
    exact op_storeK rfl (show ac.eval (.tmp 67) = .pointer (some ⟨g3, offH 6, none⟩) from he.val 14 67 (by kernel_rfl) rfl rfl) (show ac.eval (.tmp 60) = .agg (hC (s.h 6)) from he.val 5 60 (by kernel_rfl) rfl rfl) hr ⟨undef, rfl, hA'⟩
  · exact chStep_val rfl (fun ac W m he hA => stepOk_want rfl (op_fieldAddr rfl (he.keep (.tmp 3) (by kernel_rfl)) (fieldSd 13 299 (by decide)) rfl))
  · refine chStep_put (k := 3) rfl (.inr (by kernel_rfl)) (fun ac W he hA => ⟨rfl, ?_⟩)
    obtain ⟨W', hr, hA'⟩ := na_n hA 10 (by decide) rfl
    exact op_storeK rfl (show ac.eval (.tmp 68) = .pointer (some ⟨g3, offN 10, none⟩) from he.val 16 68 (by kernel_rfl) rfl rfl) (show ac.eval (.tmp 62) = .int .i64 (s.n 10) from he.val 7 62 (by kernel_rfl) rfl rfl) hr ⟨undef, rfl, hA'⟩
  · exact chStep_val rfl (fun ac W m he hA => stepOk_want rfl (op_fieldAddr rfl (he.keep (.tmp 3) (by kernel_rfl)) (fieldSd 15 301 (by decide)) rfl))
  intro xs W hA hx hk hgt
  have hA : NA w g1 g2 g3 s (nmAt s 6) 4 W := hA
  obtain ⟨W', hr, hA'⟩ := na_r hA rfl
  refine last_store rfl rfl ((hgt 18 69 (by decide) (by kernel_rfl)).trans (show xs 18 = .pointer (some ⟨g3, 301, none⟩) from hx 18 (by decide) rfl)) ((hgt 9 64 (by decide) (by kernel_rfl)).trans (show xs 9 = .string ⟨s.route.toArray⟩ from hx 9 (by decide) rfl)) hr ?_
  clear hr hA hA0 hx hk hgt
  simp only [initL, lastL, putL, Nat.reduceAdd, Act.put, List.setIfInBounds_toArray, List.set_cons_succ, List.set_cons_zero]
  have hld := loadSaid hA'.wf hA'.row
  obtain ⟨W2, hst, hr2, hgw⟩ := storeSaid (blank_wf 0) hA'.wf hA'.res
  have hb9 : Below g1 w W2 := hA'.low.grown hgw (Nat.le_of_lt hA'.src.lt) (fun j e => by injection e with e; have := hA'.lt; omega)
  have hz9 := saidC_size hA'.wf
  clear hA'
  go_wp2_with (first
    | (guard_target =~ wpList _ _ _ (_ :: _) _ _; refine wpList_load rfl 29 (.tmp 3) rfl (.pointer (some ⟨g3, 0, none⟩)) rfl hld ?_)
    | (guard_target =~ wpList _ _ _ (_ :: _) _ _; refine wpList_store rfl 29 (.tmp 2) (.tmp 126) rfl (.pointer (some ⟨g2, 0, none⟩)) _ rfl rfl hst ?_)
    | fail)
  exact bodyPost_ret (results_cell1 rfl _ _ g2 29 _ _ rfl hr2 Tryz.underlying29 rfl (by rw [hz9]; exact infoSaid)) rfl ⟨rfl, by have h9 := HG1.out; subst h9; exact hb9⟩
set_option maxRecDepth 100000 in
set_option maxHeartbeats 2000000 in
theorem named7 (s : Said) (hs : s.wf) (hk : s.kind = 7) (w : World) : Calls Tryz.prog 28 #[.agg (saidC s)] w fun e w' => e = .returned (.agg (saidC (nmd s 7))) ∧ Later w w' := by
  have k1 := Row.new w 29 (saidC s)
  have hbx := boxSaid hs w
  have hb1 := below_new w (.cells (saidC s) 29)
  go_enter Tryz.func28, Tryz.ntmps28
  go_upto_region 1 with (first
    | (with_reducible refine wpList_alloc rfl 29 rfl (allocSaid _) ?_)
    | fail)
  obtain ⟨g1, hg1⟩ : ∃ q, q = w.heap.size := ⟨_, rfl⟩
  have k1' := k1.alloc (.cells (saidC (Ms.blank 0)) 29)
  have k2 := Row.new (w.alloc (.cells (saidC s) 29)) 29 (saidC (Ms.blank 0))
  have hb2 := hb1.alloc hb1.size (.cells (saidC (Ms.blank 0)) 29)
  obtain ⟨g2, hg2⟩ : ∃ q, q = (w.alloc (.cells (saidC s) 29)).heap.size := ⟨_, rfl⟩
  have hg12 : g1 < g2 := by rw [hg1, hg2]; exact k1.lt
  clear hbx k1 hb1
  rw [← hg2] at k2
  rw [← hg1] at k1' hb2
  first | rw [← hg2] | skip
  rw [← hg1]
  generalize (w.alloc (.cells (saidC s) 29)).alloc (.cells (saidC (Ms.blank 0)) 29) = w2 at *
  have HG1 := Lib.hid hg1
  clear hg1 hg2
  obtain ⟨w3, hst, k3, hL3⟩ := newBlank w2 s.kind
  have c0 : w2.cell? ⟨g1, 0, none⟩ = some (.int .i64 s.kind) := (k1'.cell 0).trans (saidC_kind hs)
  have k23 := k2.lt
  rw [hk] at hst k3 c0
  have k13 := k1'.later hL3
  have hA0 : NA w g1 g2 w2.heap.size s (nmAt s (7)) 0 w3 := ⟨hb2.trans (hL3.below.mono (Nat.le_of_lt k1'.lt)), k13, k2.later hL3, blank_wf _, k3, hg12, k23⟩
  clear k1' hb2 hg12 k23 hL3 k3 k2
  go_upto_region 2 with (first
    | (guard_target =~ wpList _ _ _ (_ :: _) _ _; refine wpList_build rfl 29 _ rfl #[(0, .int .i64 (7))] (by simp only [List.map_toArray, List.map_cons, List.map_nil]; rfl) (buildSaidK _ _) ?_)
    | (with_reducible refine wpList_alloc rfl 29 rfl (allocSaid _) ?_)
    | (guard_target =~ wpList _ _ _ (_ :: _) _ _; refine wpList_store rfl 29 (.tmp 3) (.tmp 6) rfl (.pointer (some ⟨w2.heap.size, 0, none⟩)) (.agg (saidC (Ms.blank (7)))) rfl rfl hst ?_)
    | fail)
  clear hst c0
  obtain ⟨g3, hg3⟩ : ∃ q, q = w2.heap.size := ⟨_, rfl⟩
  rw [← hg3] at hA0 ⊢
  clear hg3
  have c0 : w3.cell? ⟨g1, 0, none⟩ = some (.int .i64 (7)) := (k13.cell 0).trans ((saidC_kind hs).trans (by rw [hk]))
  clear k13
  go_upto_region 14 with fail
  refine (wpIn_wide (n := 0)).1 ?_
  refine wpIn_region_chain wide_wide [.pointer (some ⟨g1, offN 7, none⟩), .int .i64 (s.n 7), .pointer (some ⟨g1, offH 8, none⟩), .agg (hC (s.h 8)), .pointer (some ⟨g3, offN 7, none⟩), undef, .pointer (some ⟨g3, offH 8, none⟩)] [5] (NA w g1 g2 g3 s (nmAt s 7)) (fun m W W' hL h => h.later hL) hA0 (by kernel_rfl) (by kernel_rfl) (by kernel_rfl) (by kernel_rfl) (by kernel_rfl) (by kernel_rfl) rfl (by decide) rfl ⟨?_, ?_, ?_, ?_, ?_, ?_, ?_, trivial⟩ ?_
  · exact chStep_val rfl (fun ac W m he hA => stepOk_want rfl (op_fieldAddr rfl (he.keep (.tmp 1) (by kernel_rfl)) (fieldSd 10 296 (by decide)) rfl))
  · exact chStep_val rfl (fun ac W m he hA => stepOk_want rfl (op_load rfl (show ac.eval (.tmp 72) = .pointer (some ⟨g1, offN 7, none⟩) from he.val 0 72 (by kernel_rfl) rfl rfl) (loadSaidN hs hA.src 7 (by decide)) rfl))
  · exact chStep_val rfl (fun ac W m he hA => stepOk_want rfl (op_fieldAddr rfl (he.keep (.tmp 1) (by kernel_rfl)) (fieldSd 9 264 (by decide)) rfl))
  · exact chStep_val rfl (fun ac W m he hA => stepOk_want rfl (op_load rfl (show ac.eval (.tmp 74) = .pointer (some ⟨g1, offH 8, none⟩) from he.val 2 74 (by kernel_rfl) rfl rfl) (loadSaidH hs hA.src 8 (by decide)) rfl))
  · exact chStep_val rfl (fun ac W m he hA => stepOk_want rfl (op_fieldAddr rfl (he.keep (.tmp 3) (by kernel_rfl)) (fieldSd 10 296 (by decide)) rfl))
  · refine chStep_put (k := 0) rfl (.inl rfl) (fun ac W he hA => ⟨rfl, ?_⟩)
    obtain ⟨W', hr, hA'⟩ := na_n hA 7 (by decide) rfl
    exact op_storeK rfl (show ac.eval (.tmp 76) = .pointer (some ⟨g3, offN 7, none⟩) from he.val 4 76 (by kernel_rfl) rfl rfl) (show ac.eval (.tmp 73) = .int .i64 (s.n 7) from he.val 1 73 (by kernel_rfl) rfl rfl) hr ⟨undef, rfl, hA'⟩
  · exact chStep_val rfl (fun ac W m he hA => stepOk_want rfl (op_fieldAddr rfl (he.keep (.tmp 3) (by kernel_rfl)) (fieldSd 9 264 (by decide)) rfl))
  intro xs W hA hx hk hgt
  have hA : NA w g1 g2 g3 s (nmAt s 7) 1 W := hA
  obtain ⟨W', hr, hA'⟩ := na_h hA hs 8 (by decide) rfl
  refine last_store rfl rfl ((hgt 6 77 (by decide) (by kernel_rfl)).trans (show xs 6 = .pointer (some ⟨g3, offH 8, none⟩) from hx 6 (by decide) rfl)) ((hgt 3 75 (by decide) (by kernel_rfl)).trans (show xs 3 = .agg (hC (s.h 8)) from hx 3 (by decide) rfl)) hr ?_
  clear hr hA hA0 hx hk hgt
  simp only [initL, lastL, putL, Nat.reduceAdd, Act.put, List.setIfInBounds_toArray, List.set_cons_succ, List.set_cons_zero]
  have hld := loadSaid hA'.wf hA'.row
  obtain ⟨W2, hst, hr2, hgw⟩ := storeSaid (blank_wf 0) hA'.wf hA'.res
  have hb9 : Below g1 w W2 := hA'.low.grown hgw (Nat.le_of_lt hA'.src.lt) (fun j e => by injection e with e; have := hA'.lt; omega)
  have hz9 := saidC_size hA'.wf
  clear hA'
  go_wp2_with (first
    | (guard_target =~ wpList _ _ _ (_ :: _) _ _; refine wpList_load rfl 29 (.tmp 3) rfl (.pointer (some ⟨g3, 0, none⟩)) rfl hld ?_)
    | (guard_target =~ wpList _ _ _ (_ :: _) _ _; refine wpList_store rfl 29 (.tmp 2) (.tmp 126) rfl (.pointer (some ⟨g2, 0, none⟩)) _ rfl rfl hst ?_)
    | fail)
  exact bodyPost_ret (results_cell1 rfl _ _ g2 29 _ _ rfl hr2 Tryz.underlying29 rfl (by rw [hz9]; exact infoSaid)) rfl ⟨rfl, by have h9 := HG1.out; subst h9; exact hb9⟩
set_option maxRecDepth 100000 in
set_option maxHeartbeats 2000000 in
theorem named8 (s : Said) (hs : s.wf) (hk : s.kind = 8) (w : World) : Calls Tryz.prog 28 #[.agg (saidC s)] w fun e w' => e = .returned (.agg (saidC (nmd s 8))) ∧ Later w w' := by
  have k1 := Row.new w 29 (saidC s)
  have hbx := boxSaid hs w
  have hb1 := below_new w (.cells (saidC s) 29)
  go_enter Tryz.func28, Tryz.ntmps28
  go_upto_region 1 with (first
    | (with_reducible refine wpList_alloc rfl 29 rfl (allocSaid _) ?_)
    | fail)
  obtain ⟨g1, hg1⟩ : ∃ q, q = w.heap.size := ⟨_, rfl⟩
  have k1' := k1.alloc (.cells (saidC (Ms.blank 0)) 29)
  have k2 := Row.new (w.alloc (.cells (saidC s) 29)) 29 (saidC (Ms.blank 0))
  have hb2 := hb1.alloc hb1.size (.cells (saidC (Ms.blank 0)) 29)
  obtain ⟨g2, hg2⟩ : ∃ q, q = (w.alloc (.cells (saidC s) 29)).heap.size := ⟨_, rfl⟩
  have hg12 : g1 < g2 := by rw [hg1, hg2]; exact k1.lt
  clear hbx k1 hb1
  rw [← hg2] at k2
  rw [← hg1] at k1' hb2
  first | rw [← hg2] | skip
  rw [← hg1]
  generalize (w.alloc (.cells (saidC s) 29)).alloc (.cells (saidC (Ms.blank 0)) 29) = w2 at *
  have HG1 := Lib.hid hg1
  clear hg1 hg2
  obtain ⟨w3, hst, k3, hL3⟩ := newBlank w2 s.kind
  have c0 : w2.cell? ⟨g1, 0, none⟩ = some (.int .i64 s.kind) := (k1'.cell 0).trans (saidC_kind hs)
  have k23 := k2.lt
  rw [hk] at hst k3 c0
  have k13 := k1'.later hL3
  have hA0 : NA w g1 g2 w2.heap.size s (nmAt s (8)) 0 w3 := ⟨hb2.trans (hL3.below.mono (Nat.le_of_lt k1'.lt)), k13, k2.later hL3, blank_wf _, k3, hg12, k23⟩
  clear k1' hb2 hg12 k23 hL3 k3 k2
  go_upto_region 2 with (first
    | (guard_target =~ wpList _ _ _ (_ :: _) _ _; refine wpList_build rfl 29 _ rfl #[(0, .int .i64 (8))] (by simp only [List.map_toArray, List.map_cons, List.map_nil]; rfl) (buildSaidK _ _) ?_)
    | (with_reducible refine wpList_alloc rfl 29 rfl (allocSaid _) ?_)
    | (guard_target =~ wpList _ _ _ (_ :: _) _ _; refine wpList_store rfl 29 (.tmp 3) (.tmp 6) rfl (.pointer (some ⟨w2.heap.size, 0, none⟩)) (.agg (saidC (Ms.blank (8)))) rfl rfl hst ?_)
    | fail)
  clear hst c0
  obtain ⟨g3, hg3⟩ : ∃ q, q = w2.heap.size := ⟨_, rfl⟩
  rw [← hg3] at hA0 ⊢
  clear hg3
  have c0 : w3.cell? ⟨g1, 0, none⟩ = some (.int .i64 (8)) := (k13.cell 0).trans ((saidC_kind hs).trans (by rw [hk]))
  clear k13
  go_upto_region 16 with fail
  refine (wpIn_wide (n := 0)).1 ?_
  refine wpIn_region_chain wide_wide [.pointer (some ⟨g1, offN 7, none⟩), .int .i64 (s.n 7), .pointer (some ⟨g1, offN 11, none⟩), .int .i64 (s.n 11), .pointer (some ⟨g3, offN 7, none⟩), undef, .pointer (some ⟨g3, offN 11, none⟩)] [5] (NA w g1 g2 g3 s (nmAt s 8)) (fun m W W' hL h => h.later hL) hA0 (by kernel_rfl) (by kernel_rfl) (by kernel_rfl) (by kernel_rfl) (by kernel_rfl) (by kernel_rfl) rfl (by decide) rfl ⟨?_, ?_, ?_, ?_, ?_, ?_, ?_, trivial⟩ ?_
  · exact chStep_val rfl (fun ac W m he hA => stepOk_want rfl (op_fieldAddr rfl (he.keep (.tmp 1) (by kernel_rfl)) (fieldSd 10 296 (by decide)) rfl))
  · exact chStep_val rfl (fun ac W m he hA => stepOk_want rfl (op_load rfl (show ac.eval (.tmp 80) = .pointer (some ⟨g1, offN 7, none⟩) from he.val 0 80 (by kernel_rfl) rfl rfl) (loadSaidN hs hA.src 7 (by decide)) rfl))
  · exact chStep_val rfl (fun ac W m he hA => stepOk_want rfl (op_fieldAddr rfl (he.keep (.tmp 1) (by kernel_rfl)) (fieldSd 14 300 (by decide)) rfl))
  · exact chStep_val rfl (fun ac W m he hA => stepOk_want rfl (op_load rfl (show ac.eval (.tmp 82) = .pointer (some ⟨g1, offN 11, none⟩) from he.val 2 82 (by kernel_rfl) rfl rfl) (loadSaidN hs hA.src 11 (by decide)) rfl))
  · exact chStep_val rfl (fun ac W m he hA => stepOk_want rfl (op_fieldAddr rfl (he.keep (.tmp 3) (by kernel_rfl)) (fieldSd 10 296 (by decide)) rfl))
  · refine chStep_put (k := 0) rfl (.inl rfl) (fun ac W he hA => ⟨rfl, ?_⟩)
    obtain ⟨W', hr, hA'⟩ := na_n hA 7 (by decide) rfl
    exact op_storeK rfl (show ac.eval (.tmp 84) = .pointer (some ⟨g3, offN 7, none⟩) from he.val 4 84 (by kernel_rfl) rfl rfl) (show ac.eval (.tmp 81) = .int .i64 (s.n 7) from he.val 1 81 (by kernel_rfl) rfl rfl) hr ⟨undef, rfl, hA'⟩
  · exact chStep_val rfl (fun ac W m he hA => stepOk_want rfl (op_fieldAddr rfl (he.keep (.tmp 3) (by kernel_rfl)) (fieldSd 14 300 (by decide)) rfl))
  intro xs W hA hx hk hgt
  have hA : NA w g1 g2 g3 s (nmAt s 8) 1 W := hA
  obtain ⟨W', hr, hA'⟩ := na_n hA 11 (by decide) rfl
  refine last_store rfl rfl ((hgt 6 85 (by decide) (by kernel_rfl)).trans (show xs 6 = .pointer (some ⟨g3, offN 11, none⟩) from hx 6 (by decide) rfl)) ((hgt 3 83 (by decide) (by kernel_rfl)).trans (show xs 3 = .int .i64 (s.n 11) from hx 3 (by decide) rfl)) hr ?_
  clear hr hA hA0 hx hk hgt
  simp only [initL, lastL, putL, Nat.reduceAdd, Act.put, List.setIfInBounds_toArray, List.set_cons_succ, List.set_cons_zero]
  have hld := loadSaid hA'.wf hA'.row
  obtain ⟨W2, hst, hr2, hgw⟩ := storeSaid (blank_wf 0) hA'.wf hA'.res
  have hb9 : Below g1 w W2 := hA'.low.grown hgw (Nat.le_of_lt hA'.src.lt) (fun j e => by injection e with e; have := hA'.lt; omega)
  have hz9 := saidC_size hA'.wf
  clear hA'
  go_wp2_with (first
    | (guard_target =~ wpList _ _ _ (_ :: _) _ _; refine wpList_load rfl 29 (.tmp 3) rfl (.pointer (some ⟨g3, 0, none⟩)) rfl hld ?_)
    | (guard_target =~ wpList _ _ _ (_ :: _) _ _; refine wpList_store rfl 29 (.tmp 2) (.tmp 126) rfl (.pointer (some ⟨g2, 0, none⟩)) _ rfl rfl hst ?_)
    | fail)
  exact bodyPost_ret (results_cell1 rfl _ _ g2 29 _ _ rfl hr2 Tryz.underlying29 rfl (by rw [hz9]; exact infoSaid)) rfl ⟨rfl, by have h9 := HG1.out; subst h9; exact hb9⟩
set_option maxRecDepth 100000 in
set_option maxHeartbeats 2000000 in
theorem named9 (s : Said) (hs : s.wf) (hk : s.kind = 9) (w : World) : Calls Tryz.prog 28 #[.agg (saidC s)] w fun e w' => e = .returned (.agg (saidC (nmd s 9))) ∧ Later w w' := by
  have k1 := Row.new w 29 (saidC s)
  have hbx := boxSaid hs w
  have hb1 := below_new w (.cells (saidC s) 29)
  go_enter Tryz.func28, Tryz.ntmps28
  go_upto_region 1 with (first
    | (with_reducible refine wpList_alloc rfl 29 rfl (allocSaid _) ?_)
    | fail)
  obtain ⟨g1, hg1⟩ : ∃ q, q = w.heap.size := ⟨_, rfl⟩
  have k1' := k1.alloc (.cells (saidC (Ms.blank 0)) 29)
  have k2 := Row.new (w.alloc (.cells (saidC s) 29)) 29 (saidC (Ms.blank 0))
  have hb2 := hb1.alloc hb1.size (.cells (saidC (Ms.blank 0)) 29)
  obtain ⟨g2, hg2⟩ : ∃ q, q = (w.alloc (.cells (saidC s) 29)).heap.size := ⟨_, rfl⟩
  have hg12 : g1 < g2 := by rw [hg1, hg2]; exact k1.lt
  clear hbx k1 hb1
  rw [← hg2] at k2
  rw [← hg1] at k1' hb2
  first | rw [← hg2] | skip
  rw [← hg1]
  generalize (w.alloc (.cells (saidC s) 29)).alloc (.cells (saidC (Ms.blank 0)) 29) = w2 at *
  have HG1 := Lib.hid hg1
  clear hg1 hg2
  obtain ⟨w3, hst, k3, hL3⟩ := newBlank w2 s.kind
  have c0 : w2.cell? ⟨g1, 0, none⟩ = some (.int .i64 s.kind) := (k1'.cell 0).trans (saidC_kind hs)
  have k23 := k2.lt
  rw [hk] at hst k3 c0
  have k13 := k1'.later hL3
  have hA0 : NA w g1 g2 w2.heap.size s (nmAt s (9)) 0 w3 := ⟨hb2.trans (hL3.below.mono (Nat.le_of_lt k1'.lt)), k13, k2.later hL3, blank_wf _, k3, hg12, k23⟩
  clear k1' hb2 hg12 k23 hL3 k3 k2
  go_upto_region 2 with (first
    | (guard_target =~ wpList _ _ _ (_ :: _) _ _; refine wpList_build rfl 29 _ rfl #[(0, .int .i64 (9))] (by simp only [List.map_toArray, List.map_cons, List.map_nil]; rfl) (buildSaidK _ _) ?_)
    | (with_reducible refine wpList_alloc rfl 29 rfl (allocSaid _) ?_)
    | (guard_target =~ wpList _ _ _ (_ :: _) _ _; refine wpList_store rfl 29 (.tmp 3) (.tmp 6) rfl (.pointer (some ⟨w2.heap.size, 0, none⟩)) (.agg (saidC (Ms.blank (9)))) rfl rfl hst ?_)
    | fail)
  clear hst c0
  obtain ⟨g3, hg3⟩ : ∃ q, q = w2.heap.size := ⟨_, rfl⟩
  rw [← hg3] at hA0 ⊢
  clear hg3
  have c0 : w3.cell? ⟨g1, 0, none⟩ = some (.int .i64 (9)) := (k13.cell 0).trans ((saidC_kind hs).trans (by rw [hk]))
  clear k13
  go_upto_region 18 with fail
  refine (wpIn_wide (n := 0)).1 ?_
  refine wpIn_region_chain wide_wide [.pointer (some ⟨g1, offN 8, none⟩), .int .i64 (s.n 8), .pointer (some ⟨g1, offH 7, none⟩), .agg (hC (s.h 7)), .pointer (some ⟨g3, offN 8, none⟩), undef, .pointer (some ⟨g3, offH 7, none⟩)] [5] (NA w g1 g2 g3 s (nmAt s 9)) (fun m W W' hL h => h.later hL) hA0 (by kernel_rfl) (by kernel_rfl) (by kernel_rfl) (by kernel_rfl) (by kernel_rfl) (by kernel_rfl) rfl (by decide) rfl ⟨?_, ?_, ?_, ?_, ?_, ?_, ?_, trivial⟩ ?_
  · exact chStep_val rfl (fun ac W m he hA => stepOk_want rfl (op_fieldAddr rfl (he.keep (.tmp 1) (by kernel_rfl)) (fieldSd 11 297 (by decide)) rfl))
  · exact chStep_val rfl (fun ac W m he hA => stepOk_want rfl (op_load rfl (show ac.eval (.tmp 88) = .pointer (some ⟨g1, offN 8, none⟩) from he.val 0 88 (by kernel_rfl) rfl rfl) (loadSaidN hs hA.src 8 (by decide)) rfl))
  · exact chStep_val rfl (fun ac W m he hA => stepOk_want rfl (op_fieldAddr rfl (he.keep (.tmp 1) (by kernel_rfl)) (fieldSd 8 232 (by decide)) rfl))
  · exact chStep_val rfl (fun ac W m he hA => stepOk_want rfl (op_load rfl (show ac.eval (.tmp 90) = .pointer (some ⟨g1, offH 7, none⟩) from he.val 2 90 (by kernel_rfl) rfl rfl) (loadSaidH hs hA.src 7 (by decide)) rfl))
  · exact chStep_val rfl (fun ac W m he hA => stepOk_want rfl (op_fieldAddr rfl (he.keep (.tmp 3) (by kernel_rfl)) (fieldSd 11 297 (by decide)) rfl))
  · refine chStep_put (k := 0) rfl (.inl rfl) (fun ac W he hA => ⟨rfl, ?_⟩)
    obtain ⟨W', hr, hA'⟩ := na_n hA 8 (by decide) rfl
    exact op_storeK rfl (show ac.eval (.tmp 92) = .pointer (some ⟨g3, offN 8, none⟩) from he.val 4 92 (by kernel_rfl) rfl rfl) (show ac.eval (.tmp 89) = .int .i64 (s.n 8) from he.val 1 89 (by kernel_rfl) rfl rfl) hr ⟨undef, rfl, hA'⟩
  · exact chStep_val rfl (fun ac W m he hA => stepOk_want rfl (op_fieldAddr rfl (he.keep (.tmp 3) (by kernel_rfl)) (fieldSd 8 232 (by decide)) rfl))
  intro xs W hA hx hk hgt
  have hA : NA w g1 g2 g3 s (nmAt s 9) 1 W := hA
  obtain ⟨W', hr, hA'⟩ := na_h hA hs 7 (by decide) rfl
  refine last_store rfl rfl ((hgt 6 93 (by decide) (by kernel_rfl)).trans (show xs 6 = .pointer (some ⟨g3, offH 7, none⟩) from hx 6 (by decide) rfl)) ((hgt 3 91 (by decide) (by kernel_rfl)).trans (show xs 3 = .agg (hC (s.h 7)) from hx 3 (by decide) rfl)) hr ?_
  clear hr hA hA0 hx hk hgt
  simp only [initL, lastL, putL, Nat.reduceAdd, Act.put, List.setIfInBounds_toArray, List.set_cons_succ, List.set_cons_zero]
  have hld := loadSaid hA'.wf hA'.row
  obtain ⟨W2, hst, hr2, hgw⟩ := storeSaid (blank_wf 0) hA'.wf hA'.res
  have hb9 : Below g1 w W2 := hA'.low.grown hgw (Nat.le_of_lt hA'.src.lt) (fun j e => by injection e with e; have := hA'.lt; omega)
  have hz9 := saidC_size hA'.wf
  clear hA'
  go_wp2_with (first
    | (guard_target =~ wpList _ _ _ (_ :: _) _ _; refine wpList_load rfl 29 (.tmp 3) rfl (.pointer (some ⟨g3, 0, none⟩)) rfl hld ?_)
    | (guard_target =~ wpList _ _ _ (_ :: _) _ _; refine wpList_store rfl 29 (.tmp 2) (.tmp 126) rfl (.pointer (some ⟨g2, 0, none⟩)) _ rfl rfl hst ?_)
    | fail)
  exact bodyPost_ret (results_cell1 rfl _ _ g2 29 _ _ rfl hr2 Tryz.underlying29 rfl (by rw [hz9]; exact infoSaid)) rfl ⟨rfl, by have h9 := HG1.out; subst h9; exact hb9⟩
set_option maxRecDepth 100000 in
set_option maxHeartbeats 2000000 in
theorem named10 (s : Said) (hs : s.wf) (hk : s.kind = 10) (w : World) : Calls Tryz.prog 28 #[.agg (saidC s)] w fun e w' => e = .returned (.agg (saidC (nmd s 10))) ∧ Later w w' := by
  have k1 := Row.new w 29 (saidC s)
  have hbx := boxSaid hs w
  have hb1 := below_new w (.cells (saidC s) 29)
  go_enter Tryz.func28, Tryz.ntmps28
  go_upto_region 1 with (first
    | (with_reducible refine wpList_alloc rfl 29 rfl (allocSaid _) ?_)
    | fail)
  obtain ⟨g1, hg1⟩ : ∃ q, q = w.heap.size := ⟨_, rfl⟩
  have k1' := k1.alloc (.cells (saidC (Ms.blank 0)) 29)
  have k2 := Row.new (w.alloc (.cells (saidC s) 29)) 29 (saidC (Ms.blank 0))
  have hb2 := hb1.alloc hb1.size (.cells (saidC (Ms.blank 0)) 29)
  obtain ⟨g2, hg2⟩ : ∃ q, q = (w.alloc (.cells (saidC s) 29)).heap.size := ⟨_, rfl⟩
  have hg12 : g1 < g2 := by rw [hg1, hg2]; exact k1.lt
  clear hbx k1 hb1
  rw [← hg2] at k2
  rw [← hg1] at k1' hb2
  first | rw [← hg2] | skip
  rw [← hg1]
  generalize (w.alloc (.cells (saidC s) 29)).alloc (.cells (saidC (Ms.blank 0)) 29) = w2 at *
  have HG1 := Lib.hid hg1
  clear hg1 hg2
  obtain ⟨w3, hst, k3, hL3⟩ := newBlank w2 s.kind
  have c0 : w2.cell? ⟨g1, 0, none⟩ = some (.int .i64 s.kind) := (k1'.cell 0).trans (saidC_kind hs)
  have k23 := k2.lt
  rw [hk] at hst k3 c0
  have k13 := k1'.later hL3
  have hA0 : NA w g1 g2 w2.heap.size s (nmAt s (10)) 0 w3 := ⟨hb2.trans (hL3.below.mono (Nat.le_of_lt k1'.lt)), k13, k2.later hL3, blank_wf _, k3, hg12, k23⟩
  clear k1' hb2 hg12 k23 hL3 k3 k2
  go_upto_region 2 with (first
    | (guard_target =~ wpList _ _ _ (_ :: _) _ _; refine wpList_build rfl 29 _ rfl #[(0, .int .i64 (10))] (by simp only [List.map_toArray, List.map_cons, List.map_nil]; rfl) (buildSaidK _ _) ?_)
    | (with_reducible refine wpList_alloc rfl 29 rfl (allocSaid _) ?_)
    | (guard_target =~ wpList _ _ _ (_ :: _) _ _; refine wpList_store rfl 29 (.tmp 3) (.tmp 6) rfl (.pointer (some ⟨w2.heap.size, 0, none⟩)) (.agg (saidC (Ms.blank (10)))) rfl rfl hst ?_)
    | fail)
  clear hst c0
  obtain ⟨g3, hg3⟩ : ∃ q, q = w2.heap.size := ⟨_, rfl⟩
  rw [← hg3] at hA0 ⊢
  clear hg3
  have c0 : w3.cell? ⟨g1, 0, none⟩ = some (.int .i64 (10)) := (k13.cell 0).trans ((saidC_kind hs).trans (by rw [hk]))
  clear k13
  go_upto_region 20 with fail
  refine (wpIn_wide (n := 0)).1 ?_
  refine wpIn_region_chain wide_wide [.pointer (some ⟨g1, offN 8, none⟩), .int .i64 (s.n 8), .pointer (some ⟨g1, offH 8, none⟩), .agg (hC (s.h 8)), .pointer (some ⟨g1, offH 4, none⟩), .agg (hC (s.h 4)), .pointer (some ⟨g3, offN 8, none⟩), undef, .pointer (some ⟨g3, offH 8, none⟩), undef, .pointer (some ⟨g3, offH 4, none⟩)] [7, 9] (NA w g1 g2 g3 s (nmAt s 10)) (fun m W W' hL h => h.later hL) hA0 (by kernel_rfl) (by kernel_rfl) (by kernel_rfl) (by kernel_rfl) (by kernel_rfl) (by kernel_rfl) rfl (by decide) rfl ⟨?_, ?_, ?_, ?_, ?_, ?_, ?_, ?_, ?_, ?_, ?_, trivial⟩ ?_
  · exact chStep_val rfl (fun ac W m he hA => stepOk_want rfl (op_fieldAddr rfl (he.keep (.tmp 1) (by kernel_rfl)) (fieldSd 11 297 (by decide)) rfl))
  · exact chStep_val rfl (fun ac W m he hA => stepOk_want rfl (op_load rfl (show ac.eval (.tmp 96) = .pointer (some ⟨g1, offN 8, none⟩) from he.val 0 96 (by kernel_rfl) rfl rfl) (loadSaidN hs hA.src 8 (by decide)) rfl))
  · exact chStep_val rfl (fun ac W m he hA => stepOk_want rfl (op_fieldAddr rfl (he.keep (.tmp 1) (by kernel_rfl)) (fieldSd 9 264 (by decide)) rfl))
  · exact chStep_val rfl (fun ac W m he hA => stepOk_want rfl (op_load rfl (show ac.eval (.tmp 98) = .pointer (some ⟨g1, offH 8, none⟩) from he.val 2 98 (by kernel_rfl) rfl rfl) (loadSaidH hs hA.src 8 (by decide)) rfl))
  · exact chStep_val rfl (fun ac W m he hA => stepOk_want rfl (op_fieldAddr rfl (he.keep (.tmp 1) (by kernel_rfl)) (fieldSd 5 136 (by decide)) rfl))
  · exact chStep_val rfl (fun ac W m he hA => stepOk_want rfl (op_load rfl (show ac.eval (.tmp 100) = .pointer (some ⟨g1, offH 4, none⟩) from he.val 4 100 (by kernel_rfl) rfl rfl) (loadSaidH hs hA.src 4 (by decide)) rfl))
  · exact chStep_val rfl (fun ac W m he hA => stepOk_want rfl (op_fieldAddr rfl (he.keep (.tmp 3) (by kernel_rfl)) (fieldSd 11 297 (by decide)) rfl))
  · refine chStep_put (k := 0) rfl (.inl rfl) (fun ac W he hA => ⟨rfl, ?_⟩)
    obtain ⟨W', hr, hA'⟩ := na_n hA 8 (by decide) rfl
    exact op_storeK rfl (show ac.eval (.tmp 102) = .pointer (some ⟨g3, offN 8, none⟩) from he.val 6 102 (by kernel_rfl) rfl rfl) (show ac.eval (.tmp 97) = .int .i64 (s.n 8) from he.val 1 97 (by kernel_rfl) rfl rfl) hr ⟨undef, rfl, hA'⟩
  · exact chStep_val rfl (fun ac W m he hA => stepOk_want rfl (op_fieldAddr rfl (he.keep (.tmp 3) (by kernel_rfl)) (fieldSd 9 264 (by decide)) rfl))
  · refine chStep_put (k := 1) rfl (.inr (by kernel_rfl)) (fun ac W he hA => ⟨rfl, ?_⟩)
    obtain ⟨W', hr, hA'⟩ := na_h hA hs 8 (by decide) rfl
    exact op_storeK rfl (show ac.eval (.tmp 103) = .pointer (some ⟨g3, offH 8, none⟩) from he.val 8 103 (by kernel_rfl) rfl rfl) (show ac.eval (.tmp 99) = .agg (hC (s.h 8)) from he.val 3 99 (by kernel_rfl) rfl rfl) hr ⟨undef, rfl, hA'⟩
  · exact chStep_val rfl (fun ac W m he hA => stepOk_want rfl (op_fieldAddr rfl (he.keep (.tmp 3) (by kernel_rfl)) (fieldSd 5 136 (by decide)) rfl))
  intro xs W hA hx hk hgt
  have hA : NA w g1 g2 g3 s (nmAt s 10) 2 W := hA
  obtain ⟨W', hr, hA'⟩ := na_h hA hs 4 (by decide) rfl
  refine last_store rfl rfl ((hgt 10 104 (by decide) (by kernel_rfl)).trans (show xs 10 = .pointer (some ⟨g3, offH 4, none⟩) from hx 10 (by decide) rfl)) ((hgt 5 101 (by decide) (by kernel_rfl)).trans (show xs 5 = .agg (hC (s.h 4)) from hx 5 (by decide) rfl)) hr ?_
  clear hr hA hA0 hx hk hgt
  simp only [initL, lastL, putL, Nat.reduceAdd, Act.put, List.setIfInBounds_toArray, List.set_cons_succ, List.set_cons_zero]
  have hld := loadSaid hA'.wf hA'.row
  obtain ⟨W2, hst, hr2, hgw⟩ := storeSaid (blank_wf 0) hA'.wf hA'.res
  have hb9 : Below g1 w W2 := hA'.low.grown hgw (Nat.le_of_lt hA'.src.lt) (fun j e => by injection e with e; have := hA'.lt; omega)
  have hz9 := saidC_size hA'.wf
  clear hA'
  go_wp2_with (first
    | (guard_target =~ wpList _ _ _ (_ :: _) _ _; refine wpList_load rfl 29 (.tmp 3) rfl (.pointer (some ⟨g3, 0, none⟩)) rfl hld ?_)
    | (guard_target =~ wpList _ _ _ (_ :: _) _ _; refine wpList_store rfl 29 (.tmp 2) (.tmp 126) rfl (.pointer (some ⟨g2, 0, none⟩)) _ rfl rfl hst ?_)
    | fail)
  exact bodyPost_ret (results_cell1 rfl _ _ g2 29 _ _ rfl hr2 Tryz.underlying29 rfl (by rw [hz9]; exact infoSaid)) rfl ⟨rfl, by have h9 := HG1.out; subst h9; exact hb9⟩
set_option maxRecDepth 100000 in
set_option maxHeartbeats 2000000 in
theorem named11 (s : Said) (hs : s.wf) (hk : s.kind = 11) (w : World) : Calls Tryz.prog 28 #[.agg (saidC s)] w fun e w' => e = .returned (.agg (saidC (nmd s 11))) ∧ Later w w' := by
  have k1 := Row.new w 29 (saidC s)
  have hbx := boxSaid hs w
  have hb1 := below_new w (.cells (saidC s) 29)
  go_enter Tryz.func28, Tryz.ntmps28
  go_upto_region 1 with (first
    | (with_reducible refine wpList_alloc rfl 29 rfl (allocSaid _) ?_)
    | fail)
  obtain ⟨g1, hg1⟩ : ∃ q, q = w.heap.size := ⟨_, rfl⟩
  have k1' := k1.alloc (.cells (saidC (Ms.blank 0)) 29)
  have k2 := Row.new (w.alloc (.cells (saidC s) 29)) 29 (saidC (Ms.blank 0))
  have hb2 := hb1.alloc hb1.size (.cells (saidC (Ms.blank 0)) 29)
  obtain ⟨g2, hg2⟩ : ∃ q, q = (w.alloc (.cells (saidC s) 29)).heap.size := ⟨_, rfl⟩
  have hg12 : g1 < g2 := by rw [hg1, hg2]; exact k1.lt
  clear hbx k1 hb1
  rw [← hg2] at k2
  rw [← hg1] at k1' hb2
  first | rw [← hg2] | skip
  rw [← hg1]
  generalize (w.alloc (.cells (saidC s) 29)).alloc (.cells (saidC (Ms.blank 0)) 29) = w2 at *
  have HG1 := Lib.hid hg1
  clear hg1 hg2
  obtain ⟨w3, hst, k3, hL3⟩ := newBlank w2 s.kind
  have c0 : w2.cell? ⟨g1, 0, none⟩ = some (.int .i64 s.kind) := (k1'.cell 0).trans (saidC_kind hs)
  have k23 := k2.lt
  rw [hk] at hst k3 c0
  have k13 := k1'.later hL3
  have hA0 : NA w g1 g2 w2.heap.size s (nmAt s (11)) 0 w3 := ⟨hb2.trans (hL3.below.mono (Nat.le_of_lt k1'.lt)), k13, k2.later hL3, blank_wf _, k3, hg12, k23⟩
  clear k1' hb2 hg12 k23 hL3 k3 k2
  go_upto_region 2 with (first
    | (guard_target =~ wpList _ _ _ (_ :: _) _ _; refine wpList_build rfl 29 _ rfl #[(0, .int .i64 (11))] (by simp only [List.map_toArray, List.map_cons, List.map_nil]; rfl) (buildSaidK _ _) ?_)
    | (with_reducible refine wpList_alloc rfl 29 rfl (allocSaid _) ?_)
    | (guard_target =~ wpList _ _ _ (_ :: _) _ _; refine wpList_store rfl 29 (.tmp 3) (.tmp 6) rfl (.pointer (some ⟨w2.heap.size, 0, none⟩)) (.agg (saidC (Ms.blank (11)))) rfl rfl hst ?_)
    | fail)
  clear hst c0
  obtain ⟨g3, hg3⟩ : ∃ q, q = w2.heap.size := ⟨_, rfl⟩
  rw [← hg3] at hA0 ⊢
  clear hg3
  have c0 : w3.cell? ⟨g1, 0, none⟩ = some (.int .i64 (11)) := (k13.cell 0).trans ((saidC_kind hs).trans (by rw [hk]))
  clear k13
  go_upto_region 22 with fail
  refine (wpIn_wide (n := 0)).1 ?_
  refine wpIn_region_chain wide_wide [.pointer (some ⟨g1, offN 8, none⟩), .int .i64 (s.n 8), .pointer (some ⟨g1, offN 7, none⟩), .int .i64 (s.n 7), .pointer (some ⟨g3, offN 8, none⟩), undef, .pointer (some ⟨g3, offN 7, none⟩)] [5] (NA w g1 g2 g3 s (nmAt s 11)) (fun m W W' hL h => h.later hL) hA0 (by kernel_rfl) (by kernel_rfl) (by kernel_rfl) (by kernel_rfl) (by kernel_rfl) (by kernel_rfl) rfl (by decide) rfl ⟨?_, ?_, ?_, ?_, ?_, ?_, ?_, trivial⟩ ?_
  · exact chStep_val rfl (fun ac W m he hA => stepOk_want rfl (op_fieldAddr rfl (he.keep (.tmp 1) (by kernel_rfl)) (fieldSd 11 297 (by decide)) rfl))
  · exact chStep_val rfl (fun ac W m he hA => stepOk_want rfl (op_load rfl (show ac.eval (.tmp 107) = .pointer (some ⟨g1, offN 8, none⟩) from he.val 0 107 (by kernel_rfl) rfl rfl) (loadSaidN hs hA.src 8 (by decide)) rfl))
  · exact chStep_val rfl (fun ac W m he hA => stepOk_want rfl (op_fieldAddr rfl (he.keep (.tmp 1) (by kernel_rfl)) (fieldSd 10 296 (by decide)) rfl))
  · exact chStep_val rfl (fun ac W m he hA => stepOk_want rfl (op_load rfl (show ac.eval (.tmp 109) = .pointer (some ⟨g1, offN 7, none⟩) from he.val 2 109 (by kernel_rfl) rfl rfl) (loadSaidN hs hA.src 7 (by decide)) rfl))
  · exact chStep_val rfl (fun ac W m he hA => stepOk_want rfl (op_fieldAddr rfl (he.keep (.tmp 3) (by kernel_rfl)) (fieldSd 11 297 (by decide)) rfl))
  · refine chStep_put (k := 0) rfl (.inl rfl) (fun ac W he hA => ⟨rfl, ?_⟩)
    obtain ⟨W', hr, hA'⟩ := na_n hA 8 (by decide) rfl
    exact op_storeK rfl (show ac.eval (.tmp 111) = .pointer (some ⟨g3, offN 8, none⟩) from he.val 4 111 (by kernel_rfl) rfl rfl) (show ac.eval (.tmp 108) = .int .i64 (s.n 8) from he.val 1 108 (by kernel_rfl) rfl rfl) hr ⟨undef, rfl, hA'⟩
  · exact chStep_val rfl (fun ac W m he hA => stepOk_want rfl (op_fieldAddr rfl (he.keep (.tmp 3) (by kernel_rfl)) (fieldSd 10 296 (by decide)) rfl))
  intro xs W hA hx hk hgt
  have hA : NA w g1 g2 g3 s (nmAt s 11) 1 W := hA
  obtain ⟨W', hr, hA'⟩ := na_n hA 7 (by decide) rfl
  refine last_store rfl rfl ((hgt 6 112 (by decide) (by kernel_rfl)).trans (show xs 6 = .pointer (some ⟨g3, offN 7, none⟩) from hx 6 (by decide) rfl)) ((hgt 3 110 (by decide) (by kernel_rfl)).trans (show xs 3 = .int .i64 (s.n 7) from hx 3 (by decide) rfl)) hr ?_
  clear hr hA hA0 hx hk hgt
  simp only [initL, lastL, putL, Nat.reduceAdd, Act.put, List.setIfInBounds_toArray, List.set_cons_succ, List.set_cons_zero]
  have hld := loadSaid hA'.wf hA'.row
  obtain ⟨W2, hst, hr2, hgw⟩ := storeSaid (blank_wf 0) hA'.wf hA'.res
  have hb9 : Below g1 w W2 := hA'.low.grown hgw (Nat.le_of_lt hA'.src.lt) (fun j e => by injection e with e; have := hA'.lt; omega)
  have hz9 := saidC_size hA'.wf
  clear hA'
  go_wp2_with (first
    | (guard_target =~ wpList _ _ _ (_ :: _) _ _; refine wpList_load rfl 29 (.tmp 3) rfl (.pointer (some ⟨g3, 0, none⟩)) rfl hld ?_)
    | (guard_target =~ wpList _ _ _ (_ :: _) _ _; refine wpList_store rfl 29 (.tmp 2) (.tmp 126) rfl (.pointer (some ⟨g2, 0, none⟩)) _ rfl rfl hst ?_)
    | fail)
  exact bodyPost_ret (results_cell1 rfl _ _ g2 29 _ _ rfl hr2 Tryz.underlying29 rfl (by rw [hz9]; exact infoSaid)) rfl ⟨rfl, by have h9 := HG1.out; subst h9; exact hb9⟩
set_option maxRecDepth 100000 in
set_option maxHeartbeats 2000000 in
theorem named13 (s : Said) (hs : s.wf) (hk : s.kind = 13) (w : World) : Calls Tryz.prog 28 #[.agg (saidC s)] w fun e w' => e = .returned (.agg (saidC (nmd s 13))) ∧ Later w w' := by
  have k1 := Row.new w 29 (saidC s)
  have hbx := boxSaid hs w
  have hb1 := below_new w (.cells (saidC s) 29)
  go_enter Tryz.func28, Tryz.ntmps28
  go_upto_region 1 with (first
    | (with_reducible refine wpList_alloc rfl 29 rfl (allocSaid _) ?_)
    | fail)
  obtain ⟨g1, hg1⟩ : ∃ q, q = w.heap.size := ⟨_, rfl⟩
  have k1' := k1.alloc (.cells (saidC (Ms.blank 0)) 29)
  have k2 := Row.new (w.alloc (.cells (saidC s) 29)) 29 (saidC (Ms.blank 0))
  have hb2 := hb1.alloc hb1.size (.cells (saidC (Ms.blank 0)) 29)
  obtain ⟨g2, hg2⟩ : ∃ q, q = (w.alloc (.cells (saidC s) 29)).heap.size := ⟨_, rfl⟩
  have hg12 : g1 < g2 := by rw [hg1, hg2]; exact k1.lt
  clear hbx k1 hb1
  rw [← hg2] at k2
  rw [← hg1] at k1' hb2
  first | rw [← hg2] | skip
  rw [← hg1]
  generalize (w.alloc (.cells (saidC s) 29)).alloc (.cells (saidC (Ms.blank 0)) 29) = w2 at *
  have HG1 := Lib.hid hg1
  clear hg1 hg2
  obtain ⟨w3, hst, k3, hL3⟩ := newBlank w2 s.kind
  have c0 : w2.cell? ⟨g1, 0, none⟩ = some (.int .i64 s.kind) := (k1'.cell 0).trans (saidC_kind hs)
  have k23 := k2.lt
  rw [hk] at hst k3 c0
  have k13 := k1'.later hL3
  have hA0 : NA w g1 g2 w2.heap.size s (nmAt s (13)) 0 w3 := ⟨hb2.trans (hL3.below.mono (Nat.le_of_lt k1'.lt)), k13, k2.later hL3, blank_wf _, k3, hg12, k23⟩
  clear k1' hb2 hg12 k23 hL3 k3 k2
  go_upto_region 2 with (first
    | (guard_target =~ wpList _ _ _ (_ :: _) _ _; refine wpList_build rfl 29 _ rfl #[(0, .int .i64 (13))] (by simp only [List.map_toArray, List.map_cons, List.map_nil]; rfl) (buildSaidK _ _) ?_)
    | (with_reducible refine wpList_alloc rfl 29 rfl (allocSaid _) ?_)
    | (guard_target =~ wpList _ _ _ (_ :: _) _ _; refine wpList_store rfl 29 (.tmp 3) (.tmp 6) rfl (.pointer (some ⟨w2.heap.size, 0, none⟩)) (.agg (saidC (Ms.blank (13)))) rfl rfl hst ?_)
    | fail)
  clear hst c0
  obtain ⟨g3, hg3⟩ : ∃ q, q = w2.heap.size := ⟨_, rfl⟩
  rw [← hg3] at hA0 ⊢
  clear hg3
  have c0 : w3.cell? ⟨g1, 0, none⟩ = some (.int .i64 (13)) := (k13.cell 0).trans ((saidC_kind hs).trans (by rw [hk]))
  clear k13
  go_upto_region 24 with fail
  refine (wpIn_wide (n := 0)).1 ?_
  refine wpIn_region_chain wide_wide [.pointer (some ⟨g1, offN 6, none⟩), .int .i64 (s.n 6), .pointer (some ⟨g1, offH 7, none⟩), .agg (hC (s.h 7)), .pointer (some ⟨g3, offN 6, none⟩), undef, .pointer (some ⟨g3, offH 7, none⟩)] [5] (NA w g1 g2 g3 s (nmAt s 13)) (fun m W W' hL h => h.later hL) hA0 (by kernel_rfl) (by kernel_rfl) (by kernel_rfl) (by kernel_rfl) (by kernel_rfl) (by kernel_rfl) rfl (by decide) rfl ⟨?_, ?_, ?_, ?_, ?_, ?_, ?_, trivial⟩ ?_
  · exact chStep_val rfl (fun ac W m he hA => stepOk_want rfl (op_fieldAddr rfl (he.keep (.tmp 1) (by kernel_rfl)) (fieldSd 3 103 (by decide)) rfl))
  · exact chStep_val rfl (fun ac W m he hA => stepOk_want rfl (op_load rfl (show ac.eval (.tmp 115) = .pointer (some ⟨g1, offN 6, none⟩) from he.val 0 115 (by kernel_rfl) rfl rfl) (loadSaidN hs hA.src 6 (by decide)) rfl))
  · exact chStep_val rfl (fun ac W m he hA => stepOk_want rfl (op_fieldAddr rfl (he.keep (.tmp 1) (by kernel_rfl)) (fieldSd 8 232 (by decide)) rfl))
  · exact chStep_val rfl (fun ac W m he hA => stepOk_want rfl (op_load rfl (show ac.eval (.tmp 117) = .pointer (some ⟨g1, offH 7, none⟩) from he.val 2 117 (by kernel_rfl) rfl rfl) (loadSaidH hs hA.src 7 (by decide)) rfl))
  · exact chStep_val rfl (fun ac W m he hA => stepOk_want rfl (op_fieldAddr rfl (he.keep (.tmp 3) (by kernel_rfl)) (fieldSd 3 103 (by decide)) rfl))
  · refine chStep_put (k := 0) rfl (.inl rfl) (fun ac W he hA => ⟨rfl, ?_⟩)
    obtain ⟨W', hr, hA'⟩ := na_n hA 6 (by decide) rfl
    exact op_storeK rfl (show ac.eval (.tmp 119) = .pointer (some ⟨g3, offN 6, none⟩) from he.val 4 119 (by kernel_rfl) rfl rfl) (show ac.eval (.tmp 116) = .int .i64 (s.n 6) from he.val 1 116 (by kernel_rfl) rfl rfl) hr ⟨undef, rfl, hA'⟩
  · exact chStep_val rfl (fun ac W m he hA => stepOk_want rfl (op_fieldAddr rfl (he.keep (.tmp 3) (by kernel_rfl)) (fieldSd 8 232 (by decide)) rfl))
  intro xs W hA hx hk hgt
  have hA : NA w g1 g2 g3 s (nmAt s 13) 1 W := hA
  obtain ⟨W', hr, hA'⟩ := na_h hA hs 7 (by decide) rfl
  refine last_store rfl rfl ((hgt 6 120 (by decide) (by kernel_rfl)).trans (show xs 6 = .pointer (some ⟨g3, offH 7, none⟩) from hx 6 (by decide) rfl)) ((hgt 3 118 (by decide) (by kernel_rfl)).trans (show xs 3 = .agg (hC (s.h 7)) from hx 3 (by decide) rfl)) hr ?_
  clear hr hA hA0 hx hk hgt
  simp only [initL, lastL, putL, Nat.reduceAdd, Act.put, List.setIfInBounds_toArray, List.set_cons_succ, List.set_cons_zero]
  have hld := loadSaid hA'.wf hA'.row
  obtain ⟨W2, hst, hr2, hgw⟩ := storeSaid (blank_wf 0) hA'.wf hA'.res
  have hb9 : Below g1 w W2 := hA'.low.grown hgw (Nat.le_of_lt hA'.src.lt) (fun j e => by injection e with e; have := hA'.lt; omega)
  have hz9 := saidC_size hA'.wf
  clear hA'
  go_wp2_with (first
    | (guard_target =~ wpList _ _ _ (_ :: _) _ _; refine wpList_load rfl 29 (.tmp 3) rfl (.pointer (some ⟨g3, 0, none⟩)) rfl hld ?_)
    | (guard_target =~ wpList _ _ _ (_ :: _) _ _; refine wpList_store rfl 29 (.tmp 2) (.tmp 126) rfl (.pointer (some ⟨g2, 0, none⟩)) _ rfl rfl hst ?_)
    | fail)
  exact bodyPost_ret (results_cell1 rfl _ _ g2 29 _ _ rfl hr2 Tryz.underlying29 rfl (by rw [hz9]; exact infoSaid)) rfl ⟨rfl, by have h9 := HG1.out; subst h9; exact hb9⟩
set_option maxRecDepth 100000 in
set_option maxHeartbeats 2000000 in
theorem named4 (s : Said) (hs : s.wf) (hk : s.kind = 4) (w : World) : Calls Tryz.prog 28 #[.agg (saidC s)] w fun e w' => e = .returned (.agg (saidC (nmd s 4))) ∧ Later w w' := by
  have k1 := Row.new w 29 (saidC s)
  have hbx := boxSaid hs w
  have hb1 := below_new w (.cells (saidC s) 29)
  go_enter Tryz.func28, Tryz.ntmps28
  go_upto_region 1 with (first
    | (with_reducible refine wpList_alloc rfl 29 rfl (allocSaid _) ?_)
    | fail)
  obtain ⟨g1, hg1⟩ : ∃ q, q = w.heap.size := ⟨_, rfl⟩
  have k1' := k1.alloc (.cells (saidC (Ms.blank 0)) 29)
  have k2 := Row.new (w.alloc (.cells (saidC s) 29)) 29 (saidC (Ms.blank 0))
  have hb2 := hb1.alloc hb1.size (.cells (saidC (Ms.blank 0)) 29)
  obtain ⟨g2, hg2⟩ : ∃ q, q = (w.alloc (.cells (saidC s) 29)).heap.size := ⟨_, rfl⟩
  have hg12 : g1 < g2 := by rw [hg1, hg2]; exact k1.lt
  clear hbx k1 hb1
  rw [← hg2] at k2
  rw [← hg1] at k1' hb2
  first | rw [← hg2] | skip
  rw [← hg1]
  generalize (w.alloc (.cells (saidC s) 29)).alloc (.cells (saidC (Ms.blank 0)) 29) = w2 at *
  have HG1 := Lib.hid hg1
  clear hg1 hg2
  obtain ⟨w3, hst, k3, hL3⟩ := newBlank w2 s.kind
  have c0 : w2.cell? ⟨g1, 0, none⟩ = some (.int .i64 s.kind) := (k1'.cell 0).trans (saidC_kind hs)
  have k23 := k2.lt
  rw [hk] at hst k3 c0
  have k13 := k1'.later hL3
  have hA0 : NA w g1 g2 w2.heap.size s (nmAt s (4)) 0 w3 := ⟨hb2.trans (hL3.below.mono (Nat.le_of_lt k1'.lt)), k13, k2.later hL3, blank_wf _, k3, hg12, k23⟩
  clear k1' hb2 hg12 k23 hL3 k3 k2
  go_upto_region 2 with (first
    | (guard_target =~ wpList _ _ _ (_ :: _) _ _; refine wpList_build rfl 29 _ rfl #[(0, .int .i64 (4))] (by simp only [List.map_toArray, List.map_cons, List.map_nil]; rfl) (buildSaidK _ _) ?_)
    | (with_reducible refine wpList_alloc rfl 29 rfl (allocSaid _) ?_)
    | (guard_target =~ wpList _ _ _ (_ :: _) _ _; refine wpList_store rfl 29 (.tmp 3) (.tmp 6) rfl (.pointer (some ⟨w2.heap.size, 0, none⟩)) (.agg (saidC (Ms.blank (4)))) rfl rfl hst ?_)
    | fail)
  clear hst c0
  obtain ⟨g3, hg3⟩ : ∃ q, q = w2.heap.size := ⟨_, rfl⟩
  rw [← hg3] at hA0 ⊢
  clear hg3
  have c0 : w3.cell? ⟨g1, 0, none⟩ = some (.int .i64 (4)) := (k13.cell 0).trans ((saidC_kind hs).trans (by rw [hk]))
  clear k13
  go_upto_region 10 with fail
  have hA : NA w g1 g2 g3 s (nmAt s 4) 0 w3 := hA0
  obtain ⟨W', hr, hA'⟩ := na_h hA hs 7 (by decide) rfl
  have hld := (loadSaidH hs hA.src 7 (by decide))
  clear hA0 hA
  go_upto_region 27 with (first
    | (guard_target =~ wpList _ _ _ (_ :: _) _ _; refine wpList_load rfl 24 (.tmp 50) rfl (.pointer (some ⟨g1, offH 7, none⟩)) rfl hld ?_)
    | (guard_target =~ wpList _ _ _ (_ :: _) _ _; refine wpList_store rfl 24 (.tmp 52) (.tmp 51) rfl (.pointer (some ⟨g3, offH 7, none⟩)) (.agg (hC (s.h 7))) rfl rfl hr ?_)
    | fail)
  clear hr hld
  have hld := loadSaid hA'.wf hA'.row
  obtain ⟨W2, hst, hr2, hgw⟩ := storeSaid (blank_wf 0) hA'.wf hA'.res
  have hb9 : Below g1 w W2 := hA'.low.grown hgw (Nat.le_of_lt hA'.src.lt) (fun j e => by injection e with e; have := hA'.lt; omega)
  have hz9 := saidC_size hA'.wf
  clear hA'
  go_wp2_with (first
    | (guard_target =~ wpList _ _ _ (_ :: _) _ _; refine wpList_load rfl 29 (.tmp 3) rfl (.pointer (some ⟨g3, 0, none⟩)) rfl hld ?_)
    | (guard_target =~ wpList _ _ _ (_ :: _) _ _; refine wpList_store rfl 29 (.tmp 2) (.tmp 126) rfl (.pointer (some ⟨g2, 0, none⟩)) _ rfl rfl hst ?_)
    | fail)
  exact bodyPost_ret (results_cell1 rfl _ _ g2 29 _ _ rfl hr2 Tryz.underlying29 rfl (by rw [hz9]; exact infoSaid)) rfl ⟨rfl, by have h9 := HG1.out; subst h9; exact hb9⟩
set_option maxRecDepth 100000 in
set_option maxHeartbeats 2000000 in
theorem named14 (s : Said) (hs : s.wf) (hk : s.kind = 14) (w : World) : Calls Tryz.prog 28 #[.agg (saidC s)] w fun e w' => e = .returned (.agg (saidC (nmd s 14))) ∧ Later w w' := by
  have k1 := Row.new w 29 (saidC s)
  have hbx := boxSaid hs w
  have hb1 := below_new w (.cells (saidC s) 29)
  go_enter Tryz.func28, Tryz.ntmps28
  go_upto_region 1 with (first
    | (with_reducible refine wpList_alloc rfl 29 rfl (allocSaid _) ?_)
    | fail)
  obtain ⟨g1, hg1⟩ : ∃ q, q = w.heap.size := ⟨_, rfl⟩
  have k1' := k1.alloc (.cells (saidC (Ms.blank 0)) 29)
  have k2 := Row.new (w.alloc (.cells (saidC s) 29)) 29 (saidC (Ms.blank 0))
  have hb2 := hb1.alloc hb1.size (.cells (saidC (Ms.blank 0)) 29)
  obtain ⟨g2, hg2⟩ : ∃ q, q = (w.alloc (.cells (saidC s) 29)).heap.size := ⟨_, rfl⟩
  have hg12 : g1 < g2 := by rw [hg1, hg2]; exact k1.lt
  clear hbx k1 hb1
  rw [← hg2] at k2
  rw [← hg1] at k1' hb2
  first | rw [← hg2] | skip
  rw [← hg1]
  generalize (w.alloc (.cells (saidC s) 29)).alloc (.cells (saidC (Ms.blank 0)) 29) = w2 at *
  have HG1 := Lib.hid hg1
  clear hg1 hg2
  obtain ⟨w3, hst, k3, hL3⟩ := newBlank w2 s.kind
  have c0 : w2.cell? ⟨g1, 0, none⟩ = some (.int .i64 s.kind) := (k1'.cell 0).trans (saidC_kind hs)
  have k23 := k2.lt
  rw [hk] at hst k3 c0
  have k13 := k1'.later hL3
  have hA0 : NA w g1 g2 w2.heap.size s (nmAt s (14)) 0 w3 := ⟨hb2.trans (hL3.below.mono (Nat.le_of_lt k1'.lt)), k13, k2.later hL3, blank_wf _, k3, hg12, k23⟩
  clear k1' hb2 hg12 k23 hL3 k3 k2
  go_upto_region 2 with (first
    | (guard_target =~ wpList _ _ _ (_ :: _) _ _; refine wpList_build rfl 29 _ rfl #[(0, .int .i64 (14))] (by simp only [List.map_toArray, List.map_cons, List.map_nil]; rfl) (buildSaidK _ _) ?_)
    | (with_reducible refine wpList_alloc rfl 29 rfl (allocSaid _) ?_)
    | (guard_target =~ wpList _ _ _ (_ :: _) _ _; refine wpList_store rfl 29 (.tmp 3) (.tmp 6) rfl (.pointer (some ⟨w2.heap.size, 0, none⟩)) (.agg (saidC (Ms.blank (14)))) rfl rfl hst ?_)
    | fail)
  clear hst c0
  obtain ⟨g3, hg3⟩ : ∃ q, q = w2.heap.size := ⟨_, rfl⟩
  rw [← hg3] at hA0 ⊢
  clear hg3
  have c0 : w3.cell? ⟨g1, 0, none⟩ = some (.int .i64 (14)) := (k13.cell 0).trans ((saidC_kind hs).trans (by rw [hk]))
  clear k13
  go_upto_region 26 with fail
  have hA : NA w g1 g2 g3 s (nmAt s 14) 0 w3 := hA0
  obtain ⟨W', hr, hA'⟩ := na_n hA 11 (by decide) rfl
  have hld := (loadSaidN hs hA.src 11 (by decide))
  clear hA0 hA
  go_upto_region 27 with (first
    | (guard_target =~ wpList _ _ _ (_ :: _) _ _; refine wpList_load rfl 2 (.tmp 123) rfl (.pointer (some ⟨g1, offN 11, none⟩)) rfl hld ?_)
    | (guard_target =~ wpList _ _ _ (_ :: _) _ _; refine wpList_store rfl 2 (.tmp 125) (.tmp 124) rfl (.pointer (some ⟨g3, offN 11, none⟩)) (.int .i64 (s.n 11)) rfl rfl hr ?_)
    | fail)
  clear hr hld
  have hld := loadSaid hA'.wf hA'.row
  obtain ⟨W2, hst, hr2, hgw⟩ := storeSaid (blank_wf 0) hA'.wf hA'.res
  have hb9 : Below g1 w W2 := hA'.low.grown hgw (Nat.le_of_lt hA'.src.lt) (fun j e => by injection e with e; have := hA'.lt; omega)
  have hz9 := saidC_size hA'.wf
  clear hA'
  go_wp2_with (first
    | (guard_target =~ wpList _ _ _ (_ :: _) _ _; refine wpList_load rfl 29 (.tmp 3) rfl (.pointer (some ⟨g3, 0, none⟩)) rfl hld ?_)
    | (guard_target =~ wpList _ _ _ (_ :: _) _ _; refine wpList_store rfl 29 (.tmp 2) (.tmp 126) rfl (.pointer (some ⟨g2, 0, none⟩)) _ rfl rfl hst ?_)
    | fail)
  exact bodyPost_ret (results_cell1 rfl _ _ g2 29 _ _ rfl hr2 Tryz.underlying29 rfl (by rw [hz9]; exact infoSaid)) rfl ⟨rfl, by have h9 := HG1.out; subst h9; exact hb9⟩
set_option maxRecDepth 100000 in
set_option maxHeartbeats 2000000 in
theorem named5 (s : Said) (hs : s.wf) (hk : s.kind = 5) (w : World) : Calls Tryz.prog 28 #[.agg (saidC s)] w fun e w' => e = .returned (.agg (saidC (nmd s 5))) ∧ Later w w' := by
  have k1 := Row.new w 29 (saidC s)
  have hbx := boxSaid hs w
  have hb1 := below_new w (.cells (saidC s) 29)
  go_enter Tryz.func28, Tryz.ntmps28
  go_upto_region 1 with (first
    | (with_reducible refine wpList_alloc rfl 29 rfl (allocSaid _) ?_)
    | fail)
  obtain ⟨g1, hg1⟩ : ∃ q, q = w.heap.size := ⟨_, rfl⟩
  have k1' := k1.alloc (.cells (saidC (Ms.blank 0)) 29)
  have k2 := Row.new (w.alloc (.cells (saidC s) 29)) 29 (saidC (Ms.blank 0))
  have hb2 := hb1.alloc hb1.size (.cells (saidC (Ms.blank 0)) 29)
  obtain ⟨g2, hg2⟩ : ∃ q, q = (w.alloc (.cells (saidC s) 29)).heap.size := ⟨_, rfl⟩
  have hg12 : g1 < g2 := by rw [hg1, hg2]; exact k1.lt
  clear hbx k1 hb1
  rw [← hg2] at k2
  rw [← hg1] at k1' hb2
  first | rw [← hg2] | skip
  rw [← hg1]
  generalize (w.alloc (.cells (saidC s) 29)).alloc (.cells (saidC (Ms.blank 0)) 29) = w2 at *
  have HG1 := Lib.hid hg1
  clear hg1 hg2
  obtain ⟨w3, hst, k3, hL3⟩ := newBlank w2 s.kind
  have c0 : w2.cell? ⟨g1, 0, none⟩ = some (.int .i64 s.kind) := (k1'.cell 0).trans (saidC_kind hs)
  have k23 := k2.lt
  rw [hk] at hst k3 c0
  have k13 := k1'.later hL3
  have hA0 : NA w g1 g2 w2.heap.size s (nmAt s (5)) 0 w3 := ⟨hb2.trans (hL3.below.mono (Nat.le_of_lt k1'.lt)), k13, k2.later hL3, blank_wf _, k3, hg12, k23⟩
  clear k1' hb2 hg12 k23 hL3 k3 k2
  go_upto_region 2 with (first
    | (guard_target =~ wpList _ _ _ (_ :: _) _ _; refine wpList_build rfl 29 _ rfl #[(0, .int .i64 (5))] (by simp only [List.map_toArray, List.map_cons, List.map_nil]; rfl) (buildSaidK _ _) ?_)
    | (with_reducible refine wpList_alloc rfl 29 rfl (allocSaid _) ?_)
    | (guard_target =~ wpList _ _ _ (_ :: _) _ _; refine wpList_store rfl 29 (.tmp 3) (.tmp 6) rfl (.pointer (some ⟨w2.heap.size, 0, none⟩)) (.agg (saidC (Ms.blank (5)))) rfl rfl hst ?_)
    | fail)
  clear hst c0
  obtain ⟨g3, hg3⟩ : ∃ q, q = w2.heap.size := ⟨_, rfl⟩
  rw [← hg3] at hA0 ⊢
  clear hg3
  have c0 : w3.cell? ⟨g1, 0, none⟩ = some (.int .i64 (5)) := (k13.cell 0).trans ((saidC_kind hs).trans (by rw [hk]))
  clear k13
  go_upto_region 27 with fail
  have hA' := hA0
  clear hA0
  have hld := loadSaid hA'.wf hA'.row
  obtain ⟨W2, hst, hr2, hgw⟩ := storeSaid (blank_wf 0) hA'.wf hA'.res
  have hb9 : Below g1 w W2 := hA'.low.grown hgw (Nat.le_of_lt hA'.src.lt) (fun j e => by injection e with e; have := hA'.lt; omega)
  have hz9 := saidC_size hA'.wf
  clear hA'
  go_wp2_with (first
    | (guard_target =~ wpList _ _ _ (_ :: _) _ _; refine wpList_load rfl 29 (.tmp 3) rfl (.pointer (some ⟨g3, 0, none⟩)) rfl hld ?_)
    | (guard_target =~ wpList _ _ _ (_ :: _) _ _; refine wpList_store rfl 29 (.tmp 2) (.tmp 126) rfl (.pointer (some ⟨g2, 0, none⟩)) _ rfl rfl hst ?_)
    | fail)
  exact bodyPost_ret (results_cell1 rfl _ _ g2 29 _ _ rfl hr2 Tryz.underlying29 rfl (by rw [hz9]; exact infoSaid)) rfl ⟨rfl, by have h9 := HG1.out; subst h9; exact hb9⟩
set_option maxRecDepth 100000 in
set_option maxHeartbeats 2000000 in
theorem named12 (s : Said) (hs : s.wf) (hk : s.kind = 12) (w : World) : Calls Tryz.prog 28 #[.agg (saidC s)] w fun e w' => e = .returned (.agg (saidC (nmd s 12))) ∧ Later w w' := by
  have k1 := Row.new w 29 (saidC s)
  have hbx := boxSaid hs w
  have hb1 := below_new w (.cells (saidC s) 29)
  go_enter Tryz.func28, Tryz.ntmps28
  go_upto_region 1 with (first
    | (with_reducible refine wpList_alloc rfl 29 rfl (allocSaid _) ?_)
    | fail)
  obtain ⟨g1, hg1⟩ : ∃ q, q = w.heap.size := ⟨_, rfl⟩
  have k1' := k1.alloc (.cells (saidC (Ms.blank 0)) 29)
  have k2 := Row.new (w.alloc (.cells (saidC s) 29)) 29 (saidC (Ms.blank 0))
  have hb2 := hb1.alloc hb1.size (.cells (saidC (Ms.blank 0)) 29)
  obtain ⟨g2, hg2⟩ : ∃ q, q = (w.alloc (.cells (saidC s) 29)).heap.size := ⟨_, rfl⟩
  have hg12 : g1 < g2 := by rw [hg1, hg2]; exact k1.lt
  clear hbx k1 hb1
  rw [← hg2] at k2
  rw [← hg1] at k1' hb2
  first | rw [← hg2] | skip
  rw [← hg1]
  generalize (w.alloc (.cells (saidC s) 29)).alloc (.cells (saidC (Ms.blank 0)) 29) = w2 at *
  have HG1 := Lib.hid hg1
  clear hg1 hg2
  obtain ⟨w3, hst, k3, hL3⟩ := newBlank w2 s.kind
  have c0 : w2.cell? ⟨g1, 0, none⟩ = some (.int .i64 s.kind) := (k1'.cell 0).trans (saidC_kind hs)
  have k23 := k2.lt
  rw [hk] at hst k3 c0
  have k13 := k1'.later hL3
  have hA0 : NA w g1 g2 w2.heap.size s (nmAt s (12)) 0 w3 := ⟨hb2.trans (hL3.below.mono (Nat.le_of_lt k1'.lt)), k13, k2.later hL3, blank_wf _, k3, hg12, k23⟩
  clear k1' hb2 hg12 k23 hL3 k3 k2
  go_upto_region 2 with (first
    | (guard_target =~ wpList _ _ _ (_ :: _) _ _; refine wpList_build rfl 29 _ rfl #[(0, .int .i64 (12))] (by simp only [List.map_toArray, List.map_cons, List.map_nil]; rfl) (buildSaidK _ _) ?_)
    | (with_reducible refine wpList_alloc rfl 29 rfl (allocSaid _) ?_)
    | (guard_target =~ wpList _ _ _ (_ :: _) _ _; refine wpList_store rfl 29 (.tmp 3) (.tmp 6) rfl (.pointer (some ⟨w2.heap.size, 0, none⟩)) (.agg (saidC (Ms.blank (12)))) rfl rfl hst ?_)
    | fail)
  clear hst c0
  obtain ⟨g3, hg3⟩ : ∃ q, q = w2.heap.size := ⟨_, rfl⟩
  rw [← hg3] at hA0 ⊢
  clear hg3
  have c0 : w3.cell? ⟨g1, 0, none⟩ = some (.int .i64 (12)) := (k13.cell 0).trans ((saidC_kind hs).trans (by rw [hk]))
  clear k13
  go_upto_region 27 with fail
  have hA' := hA0
  clear hA0
  have hld := loadSaid hA'.wf hA'.row
  obtain ⟨W2, hst, hr2, hgw⟩ := storeSaid (blank_wf 0) hA'.wf hA'.res
  have hb9 : Below g1 w W2 := hA'.low.grown hgw (Nat.le_of_lt hA'.src.lt) (fun j e => by injection e with e; have := hA'.lt; omega)
  have hz9 := saidC_size hA'.wf
  clear hA'
  go_wp2_with (first
    | (guard_target =~ wpList _ _ _ (_ :: _) _ _; refine wpList_load rfl 29 (.tmp 3) rfl (.pointer (some ⟨g3, 0, none⟩)) rfl hld ?_)
    | (guard_target =~ wpList _ _ _ (_ :: _) _ _; refine wpList_store rfl 29 (.tmp 2) (.tmp 126) rfl (.pointer (some ⟨g2, 0, none⟩)) _ rfl rfl hst ?_)
    | fail)
  exact bodyPost_ret (results_cell1 rfl _ _ g2 29 _ _ rfl hr2 Tryz.underlying29 rfl (by rw [hz9]; exact infoSaid)) rfl ⟨rfl, by have h9 := HG1.out; subst h9; exact hb9⟩
theorem named_any (s : Said) (hs : s.wf) (hk : 1 ≤ s.kind ∧ s.kind ≤ 14) (w : World) : Calls Tryz.prog 28 #[.agg (saidC s)] w fun e w' => e = .returned (.agg (saidC (nmd s s.kind))) ∧ Later w w' := by
  have hK : s.kind = 1 ∨ s.kind = 2 ∨ s.kind = 3 ∨ s.kind = 4 ∨ s.kind = 5 ∨ s.kind = 6 ∨ s.kind = 7 ∨ s.kind = 8 ∨ s.kind = 9 ∨ s.kind = 10 ∨ s.kind = 11 ∨ s.kind = 12 ∨ s.kind = 13 ∨ s.kind = 14 := by omega
  rcases hK with h | h | h | h | h | h | h | h | h | h | h | h | h | h
  · rw [h]; exact named1 s hs h w
  · rw [h]; exact named2 s hs h w
  · rw [h]; exact named3 s hs h w
  · rw [h]; exact named4 s hs h w
  · rw [h]; exact named5 s hs h w
  · rw [h]; exact named6 s hs h w
  · rw [h]; exact named7 s hs h w
  · rw [h]; exact named8 s hs h w
  · rw [h]; exact named9 s hs h w
  · rw [h]; exact named10 s hs h w
  · rw [h]; exact named11 s hs h w
  · rw [h]; exact named12 s hs h w
  · rw [h]; exact named13 s hs h w
  · rw [h]; exact named14 s hs h w
end Go.Proofs.YtcajhdmppfiaeaaGreat
