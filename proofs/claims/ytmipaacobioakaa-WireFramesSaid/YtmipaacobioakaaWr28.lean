/- Walks: the end asked of both readers; any call asked of both. -/
import Derived.Test.YtmipaacobioakaaWr27
set_option linter.unusedVariables false
set_option linter.unusedSimpArgs false
namespace Go.Proofs.Ytmipaacobioakaa
open Go.RowKit
theorem fieldRf1 {g : Nat} (W : World) : (Instr.fieldAt 34 (.pointer (some ⟨g, 0, none⟩)) 1).run Try.prog W = .ok (.pointer (some ⟨g, 1, none⟩)) W := by
  go_simp
theorem loadBool {b o : Nat} {x : Bool} {W : World} (hc : W.cell? ⟨b, o, none⟩ = some (.bool x)) : (Instr.loadAt 4 (.pointer (some ⟨b, o, none⟩))).run Try.prog W = .ok (.bool x) W := by
  go_simp
set_option maxRecDepth 100000 in
set_option maxHeartbeats 2000000 in
theorem ask4_any (g : Nat) (A : Option Addr) (n c : Nat) (l : List UInt8) (bad : Bool) (what most : Int) (w : World) (hwh : what ≠ 0 ∧ what ≠ 1 ∧ what ≠ 2 ∧ what ≠ 3) (hn : l.length = n) (hc : n ≤ c) (hcm : c ≤ 9223372036854775807) (hnm : n ≤ 9223372036854775000) (hr : Rd w A l) (hw : IsRd w g l bad) :
    Calls Try.prog 16 #[.pointer (some ⟨g, 0, none⟩), .agg (rfV A n c bad), .agg #[.int .i64 what, .int .i64 most]] w (Asked w g A l (Wr.endR l bad).1.1 (Wr.endR l bad).1.2) := by
  have k4 := ((Row.new w 34 (rfV A n c bad)).alloc (.cells #[.int .i64 what, .int .i64 most] 40)).alloc (.cells (rfV none 0 0 false) 34)
  have k5 := (Row.new (w.alloc (.cells (rfV A n c bad) 34)) 40 #[.int .i64 what, .int .i64 most]).alloc (.cells (rfV none 0 0 false) 34)
  have k6 := Row.new ((w.alloc (.cells (rfV A n c bad) 34)).alloc (.cells #[.int .i64 what, .int .i64 most] 40)) 34 (rfV none 0 0 false)
  have hb := ((((Later.refl w).alloc (.cells (rfV A n c bad) 34)).alloc (.cells #[.int .i64 what, .int .i64 most] 40)).alloc (.cells (rfV none 0 0 false) 34))
  have hgl := hw.lt
  have d0 : (what == 0) = false := by simpa using hwh.1
  have d1 : (what == 1) = false := by simpa using hwh.2.1
  have d2 : (what == 2) = false := by simpa using hwh.2.2.1
  have d3 : (what == 3) = false := by simpa using hwh.2.2.2
  have D0 := Lib.hid d0
  clear d0 hwh
  have d0 := D0.out
  refine Calls.post fun Φ HΦ => ?_
  go_enter Try.func16, Try.ntmps16
  go_upto_region 1 with (first
    | (with_reducible refine wpList_alloc rfl 34 rfl (allocRf _) ?_)
    | fail)
  simp only [World.size_alloc] at k5 k6 ⊢
  obtain ⟨q, hq⟩ : ∃ q, q = w.heap.size := ⟨_, rfl⟩
  rw [← hq] at k4 k5 k6 hgl ⊢
  generalize ((w.alloc (.cells (rfV A n c bad) 34)).alloc (.cells #[.int .i64 what, .int .i64 most] 40)).alloc (.cells (rfV none 0 0 false) 34) = w1 at *
  have HQ := Lib.hid hq
  have HN := Lib.hid hn
  clear hq hn
  have c50 : w1.cell? ⟨q + 1, 0, none⟩ = some (.int .i64 what) := (k5.cell 0).trans rfl
  have c40 : w1.cell? ⟨q, 0, none⟩ = some (.slice A n c) := (k4.cell 0).trans rfl
  have c41 : w1.cell? ⟨q, 1, none⟩ = some (.bool bad) := (k4.cell 1).trans rfl
  have hw1 := hw.later hb
  have hlt6 := k6.lt
  have hend := end_any g l bad w1 hw1
  have hqg : q ≠ g := by omega
  have hq6g : q + 1 + 1 ≠ g := by omega
  have hS0 : Same (fun k => k < w.heap.size ∧ k ≠ g) w w1 := (Same.of_below hb).mono (fun k h => h.1)
  -- what the two tell
  obtain ⟨B, hB⟩ : ∃ B, (bad || !l.isEmpty) = B := ⟨_, rfl⟩
  have hE : Wr.endR l bad = ((l, B), if B then 140 else 0) := by unfold Wr.endR; rw [hB]; cases B <;> rfl
  rw [hE] at HΦ hend
  simp only at HΦ hend
  have hcase : (bad = true ∧ B = true) ∨ (bad = false ∧ B = true ∧ decide ((0 : Int) < (n : Int)) = true ∧ decide (0 < n) = true) ∨ (bad = false ∧ B = false ∧ decide ((0 : Int) < (n : Int)) = false ∧ decide (0 < n) = false) := by
    have := HN.out
    cases bad
    · rcases l with _ | ⟨x, r⟩
      · simp at this; subst this; exact .inr (.inr ⟨rfl, hB.symm, rfl, rfl⟩)
      · simp at this; exact .inr (.inl ⟨rfl, hB.symm, decide_eq_true (by omega), decide_eq_true (by omega)⟩)
    · exact .inl ⟨rfl, hB.symm⟩
  have hfin : ∀ w4, Same (fun k => k < w1.heap.size ∧ k ≠ g) w1 w4 → IsRd w4 g l B → Row w4 (q + 1 + 1) 34 (rfV none 0 0 false) → ∀ W, Later w4 W → ∀ W', W.grownBy W' (some (q + 1 + 1)) → Same (fun k => k < w.heap.size ∧ k ≠ g) w W' ∧ IsRd W' g l B := fun w4 hs4 hw4 k64 W hL W' hg => by
    have h1 := hw4.later hL
    have k6W := k64.later hL
    have hs := Same.of_grown hg
    have hq := HQ.out
    have hsz := hL.size
    have hgW := h1.lt
    have hS : Same (fun k => k < w.heap.size ∧ k ≠ g) w w4 := hS0.trans (hs4.mono (fun k h => ⟨Nat.lt_of_lt_of_le h.1 hb.size, h.2⟩))
    refine ⟨(hS.trans ((Same.of_below hL).mono fun k h => ?_)).trans (hs.mono fun k h => ⟨?_, ?_⟩), h1.same hs ⟨hgW, ?_⟩ fun b o x hc => ⟨block_lt_of_cell hc, fun e => rf_no_byte k6W hc (Option.some.inj e)⟩⟩
    · have := hS.size; have := h.1; omega
    · have := hS.size; have := h.1; omega
    · intro e; have := Option.some.inj e; have := h.1; omega
    · intro e; have := Option.some.inj e; omega
  have HF := Lib.hid hfin
  have k4lt := k4.lt
  clear hB hE hfin hS0
  rcases hcase with ⟨rfl, rfl⟩ | ⟨rfl, rfl, e1, e2⟩ | ⟨rfl, rfl, e1, e2⟩
  · simp only [if_true, Bool.false_eq_true, if_false] at hend
    go_upto_region 23 with (first
      | (go_at_call 23; refine hend.mono ?_; clear hend; rintro e w4 ⟨hs4, rfl, hw4⟩)
      | fail)
    have k44 := k4.same hs4 ⟨k4lt, hqg⟩
    have k64 := k6.same hs4 ⟨hlt6, hq6g⟩
    have HF2 := Lib.hid (HF.out w4 hs4 hw4 k64)
    clear hs4 hw4
    refine (wpIn_wide (n := 0)).1 ?_
    refine wpIn_region_pivot wide_wide 13 [.pointer (some ⟨q, 0, none⟩), .slice A n c, .pointer (some ⟨q, 1, none⟩), .bool true, .bool true, undef, undef, .bool true, .agg (rfV A n c true), .int .i64 140, .int .i64 140, .int .i64 140, .bool true, undef] (fun W => Later w4 W) (fun y W => ∃ X W', Later w4 X ∧ X.grownBy W' (some (q + 1 + 1)) ∧ Later W' W ∧ Row W (q + 1 + 1) 34 (rfV A n c true) ∧ Row W q 34 (rfV A n c true)) (fun W W' h k => k.step h) (fun y W W' h ⟨X, X', h1, h2, h3, h4, h5⟩ => ⟨X, X', h1, h2, h3.step h, h4.later h, h5.later h⟩) (Later.refl _) (by kernel_rfl) (by kernel_rfl) (by kernel_rfl) (by kernel_rfl) (by kernel_rfl) (by kernel_rfl) rfl (by kernel_rfl) (by kernel_rfl) ⟨?_, ?_, ?_, ?_, ?_, ?_, ?_, ?_, ?_, ?_, ?_, ?_, ?_, ?_, trivial⟩ ?_
    · exact fun ac W dd xx he => stepOk_want rfl (op_fieldAddr rfl (he.keep (.tmp 4) (by kernel_rfl)) (fieldRf0 W) rfl)
    · exact fun ac W dd xx he => stepOk_want rfl (op_load rfl (show ac.eval (.tmp 145) = .pointer (some ⟨q, 0, none⟩) from he.val 0 145 (by kernel_rfl) rfl rfl) (loadSl ((he.both (C := fun W => Row W q 34 (rfV A n c true)) (fun W h => k44.later h) (fun y W ⟨_, _, _, _, _, _, h5⟩ => h5)).cell 0 |>.trans rfl)) rfl)
    · exact fun ac W dd xx he => stepOk_want rfl (op_fieldAddr rfl (he.keep (.tmp 4) (by kernel_rfl)) (fieldRf1 W) rfl)
    · exact fun ac W dd xx he => stepOk_want rfl (op_load rfl (show ac.eval (.tmp 147) = .pointer (some ⟨q, 1, none⟩) from he.val 2 147 (by kernel_rfl) rfl rfl) (loadBool ((he.both (C := fun W => Row W q 34 (rfV A n c true)) (fun W h => k44.later h) (fun y W ⟨_, _, _, _, _, _, h5⟩ => h5)).cell 1 |>.trans rfl)) rfl)
    · exact fun ac W dd xx he => stepOk_want rfl (op_move rfl (show ac.eval (.tmp 148) = .bool true from he.val 3 148 (by kernel_rfl) rfl rfl))
    · exact fun ac W dd xx he => stepOk_no rfl rfl (show ac.eval (.tmp 149) = .bool true from he.val 4 149 (by kernel_rfl) rfl rfl) (by decide) rfl
    · exact fun ac W dd xx he => stepOk_no rfl rfl (show ac.eval (.tmp 149) = .bool true from he.val 4 149 (by kernel_rfl) rfl rfl) (by decide) rfl
    · exact fun ac W dd xx he => stepOk_want rfl (op_pick (b := true) rfl (show ac.eval (.tmp 149) = .bool true from he.val 4 149 (by kernel_rfl) rfl rfl) rfl)
    · exact fun ac W dd xx he => stepOk_want rfl (op_buildR rfl (by simp only [List.map_toArray, List.map_cons, List.map_nil, (show ac.eval (.tmp 146) = .slice A n c from he.val 1 146 (by kernel_rfl) rfl rfl), (show ac.eval (.tmp 152) = .bool true from he.val 7 152 (by kernel_rfl) rfl rfl)]) (buildRf A n c true W) rfl)
    · exact fun ac W dd xx he => stepOk_want rfl (op_move rfl (he.keep (.tmp 30) (by kernel_rfl)))
    · intro ac W dd xx he; refine stepOk_want rfl ?_; have e0 : ac.eval (.tmp 154) = .int .i64 140 := (show ac.eval (.tmp 154) = .int .i64 140 from he.val 9 154 (by kernel_rfl) rfl rfl); exact op_callF (vs := #[.int .i64 140]) rfl (by simp only [List.map_toArray, List.map_cons, List.map_nil, e0]) (enters_of Try.func13 (by kernel_rfl) rfl) ((numE_any 140 W).mono fun e W' ⟨he', hw'⟩ => ⟨_, he', hw' ▸ Later.refl _, rfl⟩)
    · exact fun ac W dd xx he => stepOk_want rfl (op_move rfl (he.keep (.tmp 29) (by kernel_rfl)))
    · exact fun ac W dd xx he => stepOk_want rfl (op_binOp rfl (show ac.eval (.tmp 155) = .int .i64 140 from he.val 10 155 (by kernel_rfl) rfl rfl) (show ac.eval (.tmp 156) = .int .i64 140 from he.val 11 156 (by kernel_rfl) rfl rfl) eqgI (eqlI_self _ _ _) rfl)
    · intro ac W he hA; refine ⟨rfl, ?_⟩; have e6 := (he.keep (.tmp 6) (by kernel_rfl)); have e153 := (show ac.eval (.tmp 153) = .agg (rfV A n c true) from he.val 8 153 (by kernel_rfl) rfl rfl); obtain ⟨W', hst, hrow', hg'⟩ := storeRf (A' := A) (n' := n) (c' := c) (bad' := true) (k64.later hA); exact op_storeK rfl e6 e153 hst ⟨_, rfl, W, W', hA, hg', Later.refl _, hrow', (k44.later hA).grown hg' (fun e => by have := Option.some.inj e; omega)⟩
    · intro xs W y hB hx hk hg
      refine last_assign (vx := .bool true) rfl ((hg 12 157 (by decide) (by kernel_rfl)).trans (hx 12 (by decide))) ?_
      clear hx hk hg
      obtain ⟨X, W', h1, h2, h3, h4, h5⟩ := hB
      have hf := HF2.out X h1 W' h2
      have k6W := h4
      clear h1 h2 h4 h5 k44 k64
      simp only [initL, lastL, putL, Nat.reduceAdd, Act.put, List.setIfInBounds_toArray, List.set_cons_succ, List.set_cons_zero]
      go_wp2_with fail
      exact bodyPost_ret (results_ask rfl rfl rfl k6W Try.underlying34 rfl infoRf) rfl (HΦ.out _ _ ⟨hf.1.trans ((Same.of_below h3).mono fun k h => Nat.lt_of_lt_of_le h.1 hf.1.size), hf.2.later h3, _, rfl, A, c, by rw [HN.out], by rw [HN.out]; exact hc, hcm, fun X h => h⟩)
  · simp only [if_true, Bool.false_eq_true, if_false] at hend
    go_upto_region 23 with (first
      | (go_at_call 23; refine hend.mono ?_; clear hend; rintro e w4 ⟨hs4, rfl, hw4⟩)
      | fail)
    have k44 := k4.same hs4 ⟨k4lt, hqg⟩
    have k64 := k6.same hs4 ⟨hlt6, hq6g⟩
    have HF2 := Lib.hid (HF.out w4 hs4 hw4 k64)
    clear hs4 hw4
    refine (wpIn_wide (n := 0)).1 ?_
    refine wpIn_region_pivot wide_wide 13 [.pointer (some ⟨q, 0, none⟩), .slice A n c, .pointer (some ⟨q, 1, none⟩), .bool false, .bool false, .int .i64 140, .bool true, .bool true, .agg (rfV A n c true), .int .i64 140, .int .i64 140, .int .i64 140, .bool true, undef] (fun W => Later w4 W) (fun y W => ∃ X W', Later w4 X ∧ X.grownBy W' (some (q + 1 + 1)) ∧ Later W' W ∧ Row W (q + 1 + 1) 34 (rfV A n c true) ∧ Row W q 34 (rfV A n c false)) (fun W W' h k => k.step h) (fun y W W' h ⟨X, X', h1, h2, h3, h4, h5⟩ => ⟨X, X', h1, h2, h3.step h, h4.later h, h5.later h⟩) (Later.refl _) (by kernel_rfl) (by kernel_rfl) (by kernel_rfl) (by kernel_rfl) (by kernel_rfl) (by kernel_rfl) rfl (by kernel_rfl) (by kernel_rfl) ⟨?_, ?_, ?_, ?_, ?_, ?_, ?_, ?_, ?_, ?_, ?_, ?_, ?_, ?_, trivial⟩ ?_
    · exact fun ac W dd xx he => stepOk_want rfl (op_fieldAddr rfl (he.keep (.tmp 4) (by kernel_rfl)) (fieldRf0 W) rfl)
    · exact fun ac W dd xx he => stepOk_want rfl (op_load rfl (show ac.eval (.tmp 145) = .pointer (some ⟨q, 0, none⟩) from he.val 0 145 (by kernel_rfl) rfl rfl) (loadSl ((he.both (C := fun W => Row W q 34 (rfV A n c false)) (fun W h => k44.later h) (fun y W ⟨_, _, _, _, _, _, h5⟩ => h5)).cell 0 |>.trans rfl)) rfl)
    · exact fun ac W dd xx he => stepOk_want rfl (op_fieldAddr rfl (he.keep (.tmp 4) (by kernel_rfl)) (fieldRf1 W) rfl)
    · exact fun ac W dd xx he => stepOk_want rfl (op_load rfl (show ac.eval (.tmp 147) = .pointer (some ⟨q, 1, none⟩) from he.val 2 147 (by kernel_rfl) rfl rfl) (loadBool ((he.both (C := fun W => Row W q 34 (rfV A n c false)) (fun W h => k44.later h) (fun y W ⟨_, _, _, _, _, _, h5⟩ => h5)).cell 1 |>.trans rfl)) rfl)
    · exact fun ac W dd xx he => stepOk_want rfl (op_move rfl (show ac.eval (.tmp 148) = .bool false from he.val 3 148 (by kernel_rfl) rfl rfl))
    · exact fun ac W dd xx he => stepOk_yes (j := 4) (t := 149) (b := false) rfl rfl (show ac.eval (.tmp 149) = .bool false from he.val 4 149 (by kernel_rfl) rfl rfl) (op_move rfl (he.keep (.tmp 29) (by kernel_rfl)))
    · exact fun ac W dd xx he => stepOk_yes (j := 4) (t := 149) (b := false) rfl rfl (show ac.eval (.tmp 149) = .bool false from he.val 4 149 (by kernel_rfl) rfl rfl) (op_binOp rfl (show ac.eval (.tmp 150) = .int .i64 140 from he.val 5 150 (by kernel_rfl) rfl rfl) rfl eqgI (neqI _ _ _ _) rfl)
    · exact fun ac W dd xx he => stepOk_want rfl (op_pick (b := false) rfl (show ac.eval (.tmp 149) = .bool false from he.val 4 149 (by kernel_rfl) rfl rfl) (show ac.eval (.tmp 151) = .bool true from he.val 6 151 (by kernel_rfl) rfl rfl))
    · exact fun ac W dd xx he => stepOk_want rfl (op_buildR rfl (by simp only [List.map_toArray, List.map_cons, List.map_nil, (show ac.eval (.tmp 146) = .slice A n c from he.val 1 146 (by kernel_rfl) rfl rfl), (show ac.eval (.tmp 152) = .bool true from he.val 7 152 (by kernel_rfl) rfl rfl)]) (buildRf A n c true W) rfl)
    · exact fun ac W dd xx he => stepOk_want rfl (op_move rfl (he.keep (.tmp 30) (by kernel_rfl)))
    · intro ac W dd xx he; refine stepOk_want rfl ?_; have e0 : ac.eval (.tmp 154) = .int .i64 140 := (show ac.eval (.tmp 154) = .int .i64 140 from he.val 9 154 (by kernel_rfl) rfl rfl); exact op_callF (vs := #[.int .i64 140]) rfl (by simp only [List.map_toArray, List.map_cons, List.map_nil, e0]) (enters_of Try.func13 (by kernel_rfl) rfl) ((numE_any 140 W).mono fun e W' ⟨he', hw'⟩ => ⟨_, he', hw' ▸ Later.refl _, rfl⟩)
    · exact fun ac W dd xx he => stepOk_want rfl (op_move rfl (he.keep (.tmp 29) (by kernel_rfl)))
    · exact fun ac W dd xx he => stepOk_want rfl (op_binOp rfl (show ac.eval (.tmp 155) = .int .i64 140 from he.val 10 155 (by kernel_rfl) rfl rfl) (show ac.eval (.tmp 156) = .int .i64 140 from he.val 11 156 (by kernel_rfl) rfl rfl) eqgI (eqlI_self _ _ _) rfl)
    · intro ac W he hA; refine ⟨rfl, ?_⟩; have e6 := (he.keep (.tmp 6) (by kernel_rfl)); have e153 := (show ac.eval (.tmp 153) = .agg (rfV A n c true) from he.val 8 153 (by kernel_rfl) rfl rfl); obtain ⟨W', hst, hrow', hg'⟩ := storeRf (A' := A) (n' := n) (c' := c) (bad' := true) (k64.later hA); exact op_storeK rfl e6 e153 hst ⟨_, rfl, W, W', hA, hg', Later.refl _, hrow', (k44.later hA).grown hg' (fun e => by have := Option.some.inj e; omega)⟩
    · intro xs W y hB hx hk hg
      refine last_assign (vx := .bool true) rfl ((hg 12 157 (by decide) (by kernel_rfl)).trans (hx 12 (by decide))) ?_
      clear hx hk hg
      obtain ⟨X, W', h1, h2, h3, h4, h5⟩ := hB
      have hf := HF2.out X h1 W' h2
      have k6W := h4
      clear h1 h2 h4 h5 k44 k64
      simp only [initL, lastL, putL, Nat.reduceAdd, Act.put, List.setIfInBounds_toArray, List.set_cons_succ, List.set_cons_zero]
      go_wp2_with fail
      exact bodyPost_ret (results_ask rfl rfl rfl k6W Try.underlying34 rfl infoRf) rfl (HΦ.out _ _ ⟨hf.1.trans ((Same.of_below h3).mono fun k h => Nat.lt_of_lt_of_le h.1 hf.1.size), hf.2.later h3, _, rfl, A, c, by rw [HN.out], by rw [HN.out]; exact hc, hcm, fun X h => h⟩)
  · simp only [if_true, Bool.false_eq_true, if_false] at hend
    go_upto_region 23 with (first
      | (go_at_call 23; refine hend.mono ?_; clear hend; rintro e w4 ⟨hs4, rfl, hw4⟩)
      | fail)
    have k44 := k4.same hs4 ⟨k4lt, hqg⟩
    have k64 := k6.same hs4 ⟨hlt6, hq6g⟩
    have HF2 := Lib.hid (HF.out w4 hs4 hw4 k64)
    clear hs4 hw4
    refine (wpIn_wide (n := 0)).1 ?_
    refine wpIn_region_pivot wide_wide 13 [.pointer (some ⟨q, 0, none⟩), .slice A n c, .pointer (some ⟨q, 1, none⟩), .bool false, .bool false, .int .i64 0, .bool false, .bool false, .agg (rfV A n c false), .int .i64 0, .int .i64 0, .int .i64 0, .bool true, undef] (fun W => Later w4 W) (fun y W => ∃ X W', Later w4 X ∧ X.grownBy W' (some (q + 1 + 1)) ∧ Later W' W ∧ Row W (q + 1 + 1) 34 (rfV A n c false) ∧ Row W q 34 (rfV A n c false)) (fun W W' h k => k.step h) (fun y W W' h ⟨X, X', h1, h2, h3, h4, h5⟩ => ⟨X, X', h1, h2, h3.step h, h4.later h, h5.later h⟩) (Later.refl _) (by kernel_rfl) (by kernel_rfl) (by kernel_rfl) (by kernel_rfl) (by kernel_rfl) (by kernel_rfl) rfl (by kernel_rfl) (by kernel_rfl) ⟨?_, ?_, ?_, ?_, ?_, ?_, ?_, ?_, ?_, ?_, ?_, ?_, ?_, ?_, trivial⟩ ?_
    · exact fun ac W dd xx he => stepOk_want rfl (op_fieldAddr rfl (he.keep (.tmp 4) (by kernel_rfl)) (fieldRf0 W) rfl)
    · exact fun ac W dd xx he => stepOk_want rfl (op_load rfl (show ac.eval (.tmp 145) = .pointer (some ⟨q, 0, none⟩) from he.val 0 145 (by kernel_rfl) rfl rfl) (loadSl ((he.both (C := fun W => Row W q 34 (rfV A n c false)) (fun W h => k44.later h) (fun y W ⟨_, _, _, _, _, _, h5⟩ => h5)).cell 0 |>.trans rfl)) rfl)
    · exact fun ac W dd xx he => stepOk_want rfl (op_fieldAddr rfl (he.keep (.tmp 4) (by kernel_rfl)) (fieldRf1 W) rfl)
    · exact fun ac W dd xx he => stepOk_want rfl (op_load rfl (show ac.eval (.tmp 147) = .pointer (some ⟨q, 1, none⟩) from he.val 2 147 (by kernel_rfl) rfl rfl) (loadBool ((he.both (C := fun W => Row W q 34 (rfV A n c false)) (fun W h => k44.later h) (fun y W ⟨_, _, _, _, _, _, h5⟩ => h5)).cell 1 |>.trans rfl)) rfl)
    · exact fun ac W dd xx he => stepOk_want rfl (op_move rfl (show ac.eval (.tmp 148) = .bool false from he.val 3 148 (by kernel_rfl) rfl rfl))
    · exact fun ac W dd xx he => stepOk_yes (j := 4) (t := 149) (b := false) rfl rfl (show ac.eval (.tmp 149) = .bool false from he.val 4 149 (by kernel_rfl) rfl rfl) (op_move rfl (he.keep (.tmp 29) (by kernel_rfl)))
    · exact fun ac W dd xx he => stepOk_yes (j := 4) (t := 149) (b := false) rfl rfl (show ac.eval (.tmp 149) = .bool false from he.val 4 149 (by kernel_rfl) rfl rfl) (op_binOp rfl (show ac.eval (.tmp 150) = .int .i64 0 from he.val 5 150 (by kernel_rfl) rfl rfl) rfl eqgI (neqI _ _ _ _) rfl)
    · exact fun ac W dd xx he => stepOk_want rfl (op_pick (b := false) rfl (show ac.eval (.tmp 149) = .bool false from he.val 4 149 (by kernel_rfl) rfl rfl) (show ac.eval (.tmp 151) = .bool false from he.val 6 151 (by kernel_rfl) rfl rfl))
    · exact fun ac W dd xx he => stepOk_want rfl (op_buildR rfl (by simp only [List.map_toArray, List.map_cons, List.map_nil, (show ac.eval (.tmp 146) = .slice A n c from he.val 1 146 (by kernel_rfl) rfl rfl), (show ac.eval (.tmp 152) = .bool false from he.val 7 152 (by kernel_rfl) rfl rfl)]) (buildRf A n c false W) rfl)
    · exact fun ac W dd xx he => stepOk_want rfl (op_move rfl (he.keep (.tmp 30) (by kernel_rfl)))
    · intro ac W dd xx he; refine stepOk_want rfl ?_; have e0 : ac.eval (.tmp 154) = .int .i64 0 := (show ac.eval (.tmp 154) = .int .i64 0 from he.val 9 154 (by kernel_rfl) rfl rfl); exact op_callF (vs := #[.int .i64 0]) rfl (by simp only [List.map_toArray, List.map_cons, List.map_nil, e0]) (enters_of Try.func13 (by kernel_rfl) rfl) ((numE_any 0 W).mono fun e W' ⟨he', hw'⟩ => ⟨_, he', hw' ▸ Later.refl _, rfl⟩)
    · exact fun ac W dd xx he => stepOk_want rfl (op_move rfl (he.keep (.tmp 29) (by kernel_rfl)))
    · exact fun ac W dd xx he => stepOk_want rfl (op_binOp rfl (show ac.eval (.tmp 155) = .int .i64 0 from he.val 10 155 (by kernel_rfl) rfl rfl) (show ac.eval (.tmp 156) = .int .i64 0 from he.val 11 156 (by kernel_rfl) rfl rfl) eqgI (eqlI_self _ _ _) rfl)
    · intro ac W he hA; refine ⟨rfl, ?_⟩; have e6 := (he.keep (.tmp 6) (by kernel_rfl)); have e153 := (show ac.eval (.tmp 153) = .agg (rfV A n c false) from he.val 8 153 (by kernel_rfl) rfl rfl); obtain ⟨W', hst, hrow', hg'⟩ := storeRf (A' := A) (n' := n) (c' := c) (bad' := false) (k64.later hA); exact op_storeK rfl e6 e153 hst ⟨_, rfl, W, W', hA, hg', Later.refl _, hrow', (k44.later hA).grown hg' (fun e => by have := Option.some.inj e; omega)⟩
    · intro xs W y hB hx hk hg
      refine last_assign (vx := .bool true) rfl ((hg 12 157 (by decide) (by kernel_rfl)).trans (hx 12 (by decide))) ?_
      clear hx hk hg
      obtain ⟨X, W', h1, h2, h3, h4, h5⟩ := hB
      have hf := HF2.out X h1 W' h2
      have k6W := h4
      clear h1 h2 h4 h5 k44 k64
      simp only [initL, lastL, putL, Nat.reduceAdd, Act.put, List.setIfInBounds_toArray, List.set_cons_succ, List.set_cons_zero]
      go_wp2_with fail
      exact bodyPost_ret (results_ask rfl rfl rfl k6W Try.underlying34 rfl infoRf) rfl (HΦ.out _ _ ⟨hf.1.trans ((Same.of_below h3).mono fun k h => Nat.lt_of_lt_of_le h.1 hf.1.size), hf.2.later h3, _, rfl, A, c, by rw [HN.out], by rw [HN.out]; exact hc, hcm, fun X h => h⟩)
end Go.Proofs.Ytmipaacobioakaa
