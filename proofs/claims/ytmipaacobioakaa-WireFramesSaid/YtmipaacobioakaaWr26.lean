/- Walks: a truth, a text asked of both readers. -/
import Derived.Test.YtmipaacobioakaaWr25
set_option linter.unusedVariables false
set_option linter.unusedSimpArgs false
namespace Go.Proofs.Ytmipaacobioakaa
open Go.RowKit
/-- The bound that the law gives a text: from -2 to 2^40. -/
def Wr.clamp (most : Int) : Int := if -2 < (if most < 1099511627776 then most else 1099511627776) then (if most < 1099511627776 then most else 1099511627776) else -2
set_option maxRecDepth 100000 in
set_option maxHeartbeats 1000000 in
theorem ask1_any (g : Nat) (A : Option Addr) (n c : Nat) (l : List UInt8) (bad : Bool) (most : Int) (w : World) (hn : l.length = n) (hc : n ≤ c) (hcm : c ≤ 9223372036854775807) (hnm : n ≤ 9223372036854775000) (hr : Rd w A l) (hw : IsRd w g l bad) :
    Calls Try.prog 16 #[.pointer (some ⟨g, 0, none⟩), .agg (rfV A n c bad), .agg #[.int .i64 1, .int .i64 most]] w (Asked w g A l (Wr.truthR l bad).1.1 (Wr.truthR l bad).1.2) := by
  have k4 := ((Row.new w 34 (rfV A n c bad)).alloc (.cells #[.int .i64 1, .int .i64 most] 40)).alloc (.cells (rfV none 0 0 false) 34)
  have k5 := (Row.new (w.alloc (.cells (rfV A n c bad) 34)) 40 #[.int .i64 1, .int .i64 most]).alloc (.cells (rfV none 0 0 false) 34)
  have k6 := Row.new ((w.alloc (.cells (rfV A n c bad) 34)).alloc (.cells #[.int .i64 1, .int .i64 most] 40)) 34 (rfV none 0 0 false)
  have hb := ((((Later.refl w).alloc (.cells (rfV A n c bad) 34)).alloc (.cells #[.int .i64 1, .int .i64 most] 40)).alloc (.cells (rfV none 0 0 false) 34))
  have hgl := hw.lt
  refine Calls.post fun Φ HΦ => ?_
  go_enter Try.func16, Try.ntmps16
  go_upto_region 1 with (first
    | (with_reducible refine wpList_alloc rfl 34 rfl (allocRf _) ?_)
    | fail)
  simp only [World.size_alloc] at k5 k6 ⊢
  obtain ⟨q, hq⟩ : ∃ q, q = w.heap.size := ⟨_, rfl⟩
  rw [← hq] at k4 k5 k6 hgl ⊢
  generalize ((w.alloc (.cells (rfV A n c bad) 34)).alloc (.cells #[.int .i64 1, .int .i64 most] 40)).alloc (.cells (rfV none 0 0 false) 34) = w1 at *
  have HQ := Lib.hid hq
  have HN := Lib.hid hn
  clear hq hn
  have c50 : w1.cell? ⟨q + 1, 0, none⟩ = some (.int .i64 1) := (k5.cell 0).trans rfl
  have c51 : w1.cell? ⟨q + 1, 1, none⟩ = some (.int .i64 most) := (k5.cell 1).trans rfl
  have hld := loadRf k4
  have hnum := refTruthR_any A n c l bad w1 HN.out hc hcm hnm (hr.later hb)
  have hw1 := hw.later hb
  have hnum3 := fun W (h : IsRd W g l bad) => truth_any g l bad W h
  generalize Wr.truthR l bad = R at *
  obtain ⟨⟨l', bad'⟩, x, no⟩ := R
  go_upto_region 9 with (first
    | (refine wpList_load rfl 34 (.tmp 4) rfl (.pointer (some ⟨q, 0, none⟩)) rfl hld ?_)
    | (go_at_call 43; refine hnum.mono ?_; clear hnum; rintro e w2 ⟨hL2, v, rfl, D, c2, rfl, hcc, hcm2, hD⟩; obtain ⟨w3, hst, k83, hg3⟩ := storeRf (A' := D) (n' := l'.length) (c' := c2) (bad' := bad') (Row.new w2 34 (rfV none 0 0 false)))
    | (with_reducible refine wpList_alloc rfl 34 rfl (allocRf _) ?_)
    | (refine wpList_store rfl 34 (.tmp 13) (.tmp 65) rfl (.pointer (some ⟨w2.heap.size, 0, none⟩)) (.agg (rfV D l'.length c2 bad')) rfl rfl hst ?_; have hL23 : Later w2 w3 := ((Later.refl w2).alloc (.cells (rfV none 0 0 false) 34)).grown hg3 (by simp) (fun j e => by cases e; omega); have c513 := (hL2.step hL23).cell c51; have hnum3 := hnum3 w3 (hw1.later (hL2.step hL23)))
    | (go_at_call 20; refine hnum3.mono ?_; clear hnum3; rintro e w4 ⟨hs4, rfl, hw4⟩)
    | fail)
  have hlt8 := k83.lt
  have hs14 : Later w1 w3 := hL2.step hL23
  have k63 := k6.later hs14
  have hlt6 := k63.lt
  obtain ⟨q8, hq8⟩ : ∃ q, q = w2.heap.size := ⟨_, rfl⟩
  rw [← hq8] at k83 hlt8 ⊢
  have hlt62 := (k6.later hL2).lt
  have k84 := k83.same hs4 ⟨hlt8, by have := hb.size; have := hL2.size; have := hw1.lt; omega⟩
  have k64 := k63.same hs4 ⟨hlt6, by omega⟩
  have hne8 : q8 ≠ q + 1 + 1 := by omega
  have hS : Same (fun k => k < w.heap.size ∧ k ≠ g) w w4 := ((Same.of_below hb).mono (fun k h => h.1)).trans (((Same.of_below hs14).mono (fun k h => Nat.lt_of_lt_of_le h.1 hb.size)).trans (hs4.mono (fun k h => ⟨Nat.lt_of_lt_of_le h.1 (Nat.le_trans hb.size hs14.size), h.2⟩)))
  have hfin : ∀ W, Later w4 W → ∀ W', W.grownBy W' (some (q + 1 + 1)) → Same (fun k => k < w.heap.size ∧ k ≠ g) w W' ∧ IsRd W' g l' bad' := fun W hL W' hg => by
    have h1 := hw4.later hL
    have k6W := k64.later hL
    have hs := Same.of_grown hg
    have hq := HQ.out
    have hsz := hL.size
    have hgW := h1.lt
    refine ⟨(hS.trans ((Same.of_below hL).mono fun k h => ?_)).trans (hs.mono fun k h => ⟨?_, ?_⟩), h1.same hs ⟨hgW, ?_⟩ fun b o x hc => ⟨block_lt_of_cell hc, fun e => rf_no_byte k6W hc (Option.some.inj e)⟩⟩
    · have := hS.size; have := h.1; omega
    · have := hS.size; have := h.1; omega
    · intro e; have := Option.some.inj e; have := h.1; omega
    · intro e; have := Option.some.inj e; omega
  have H8 := Lib.hid hq8
  have HS := Lib.hid hfin
  clear hfin hS hs4 hq8 hst hg3 hL23 c513
  refine (wpIn_wide (n := 0)).1 ?_
  refine wpIn_region_pivot wide_wide 10 [.agg (rfV D l'.length c2 bad'), .bool x, .bool x, .bool true, .bool true, .int .i64 no, .int .i64 no, .int .i64 no, .bool true, .bool true, undef] (fun W => Later w4 W) (fun y W => ∃ X W', Later w4 X ∧ X.grownBy W' (some (q + 1 + 1)) ∧ Later W' W ∧ Row W (q + 1 + 1) 34 (rfV D l'.length c2 bad') ∧ Row W q8 34 (rfV D l'.length c2 bad')) (fun W W' h k => k.step h) (fun y W W' h ⟨X, X', h1, h2, h3, h4, h5⟩ => ⟨X, X', h1, h2, h3.step h, h4.later h, h5.later h⟩) (Later.refl _) (by kernel_rfl) (by kernel_rfl) (by kernel_rfl) (by kernel_rfl) (by kernel_rfl) (by kernel_rfl) rfl (by kernel_rfl) (by kernel_rfl) ⟨?_, ?_, ?_, ?_, ?_, ?_, ?_, ?_, ?_, ?_, ?_, trivial⟩ ?_
  · exact fun ac W dd xx he => stepOk_want rfl (op_load rfl (he.keep (.tmp 13) (by kernel_rfl)) (loadRf (he.both (C := fun W => Row W q8 34 (rfV D l'.length c2 bad')) (fun W h => k84.later h) (fun y W ⟨_, _, _, _, _, _, h5⟩ => h5))) rfl)
  · exact fun ac W dd xx he => stepOk_want rfl (op_move rfl (he.keep (.tmp 16) (by kernel_rfl)))
  · exact fun ac W dd xx he => stepOk_want rfl (op_move rfl (he.keep (.tmp 14) (by kernel_rfl)))
  · exact fun ac W dd xx he => stepOk_want rfl (op_binOp rfl (show ac.eval (.tmp 74) = .bool x from he.val 1 74 (by kernel_rfl) rfl rfl) (show ac.eval (.tmp 75) = .bool x from he.val 2 75 (by kernel_rfl) rfl rfl) eqgB (eqlB_self _) rfl)
  · exact fun ac W dd xx he => stepOk_want rfl (op_move rfl (show ac.eval (.tmp 76) = .bool true from he.val 3 76 (by kernel_rfl) rfl rfl))
  · exact fun ac W dd xx he => stepOk_yes (j := 4) (t := 77) (b := true) rfl rfl (show ac.eval (.tmp 77) = .bool true from he.val 4 77 (by kernel_rfl) rfl rfl) (op_move rfl (he.keep (.tmp 17) (by kernel_rfl)))
  · intro ac W dd xx he; refine stepOk_yes (j := 4) (t := 77) (b := true) rfl rfl (show ac.eval (.tmp 77) = .bool true from he.val 4 77 (by kernel_rfl) rfl rfl) ?_; have e0 : ac.eval (.tmp 78) = .int .i64 no := (show ac.eval (.tmp 78) = .int .i64 no from he.val 5 78 (by kernel_rfl) rfl rfl); exact op_callF (vs := #[.int .i64 no]) rfl (by simp only [List.map_toArray, List.map_cons, List.map_nil, e0]) (enters_of Try.func13 (by kernel_rfl) rfl) ((numE_any no W).mono fun e W' ⟨he', hw'⟩ => ⟨_, he', hw' ▸ Later.refl _, rfl⟩)
  · exact fun ac W dd xx he => stepOk_yes (j := 4) (t := 77) (b := true) rfl rfl (show ac.eval (.tmp 77) = .bool true from he.val 4 77 (by kernel_rfl) rfl rfl) (op_move rfl (he.keep (.tmp 15) (by kernel_rfl)))
  · exact fun ac W dd xx he => stepOk_yes (j := 4) (t := 77) (b := true) rfl rfl (show ac.eval (.tmp 77) = .bool true from he.val 4 77 (by kernel_rfl) rfl rfl) (op_binOp rfl (show ac.eval (.tmp 79) = .int .i64 no from he.val 6 79 (by kernel_rfl) rfl rfl) (show ac.eval (.tmp 80) = .int .i64 no from he.val 7 80 (by kernel_rfl) rfl rfl) eqgI (eqlI_self _ _ _) rfl)
  · exact fun ac W dd xx he => stepOk_want rfl (op_pick (b := true) rfl (show ac.eval (.tmp 77) = .bool true from he.val 4 77 (by kernel_rfl) rfl rfl) (show ac.eval (.tmp 81) = .bool true from he.val 8 81 (by kernel_rfl) rfl rfl))
  · intro ac W he hA; refine ⟨rfl, ?_⟩; have e6 := (he.keep (.tmp 6) (by kernel_rfl)); have e73 := (show ac.eval (.tmp 73) = .agg (rfV D l'.length c2 bad') from he.val 0 73 (by kernel_rfl) rfl rfl); obtain ⟨W', hst, hrow', hg'⟩ := storeRf (A' := D) (n' := l'.length) (c' := c2) (bad' := bad') (k64.later hA); exact op_storeK rfl e6 e73 hst ⟨_, rfl, W, W', hA, hg', Later.refl _, hrow', (k84.later hA).grown hg' (fun e => hne8 (Option.some.inj e))⟩
  · intro xs W y hB hx hk hg
    refine last_assign (vx := .bool true) rfl ((hg 9 82 (by decide) (by kernel_rfl)).trans (hx 9 (by decide))) ?_
    clear hx hk hg
    obtain ⟨X, W', h1, h2, h3, h4, h5⟩ := hB
    have hf := HS.out X h1 W' h2
    have k6W := h4
    clear h1 h2 h4 h5 k84 k64 hw4
    simp only [initL, lastL, putL, Nat.reduceAdd, Act.put, List.setIfInBounds_toArray, List.set_cons_succ, List.set_cons_zero]
    go_wp2_with fail
    exact bodyPost_ret (results_ask rfl rfl rfl k6W Try.underlying34 rfl infoRf) rfl (HΦ.out _ _ ⟨hf.1.trans ((Same.of_below h3).mono fun k h => Nat.lt_of_lt_of_le h.1 hf.1.size), hf.2.later h3, _, rfl, D, c2, rfl, hcc, hcm2, hD⟩)
set_option maxRecDepth 100000 in
set_option maxHeartbeats 1000000 in
theorem ask3_any (g : Nat) (A : Option Addr) (n c : Nat) (l : List UInt8) (bad : Bool) (most : Int) (w : World) (hn : l.length = n) (hc : n ≤ c) (hcm : c ≤ 9223372036854775807) (hnm : n ≤ 9223372036854775000) (hr : Rd w A l) (hw : IsRd w g l bad) :
    Calls Try.prog 16 #[.pointer (some ⟨g, 0, none⟩), .agg (rfV A n c bad), .agg #[.int .i64 3, .int .i64 most]] w (Asked w g A l (Wr.textR l bad (Wr.clamp most)).1.1 (Wr.textR l bad (Wr.clamp most)).1.2) := by
  have k4 := ((Row.new w 34 (rfV A n c bad)).alloc (.cells #[.int .i64 3, .int .i64 most] 40)).alloc (.cells (rfV none 0 0 false) 34)
  have k5 := (Row.new (w.alloc (.cells (rfV A n c bad) 34)) 40 #[.int .i64 3, .int .i64 most]).alloc (.cells (rfV none 0 0 false) 34)
  have k6 := Row.new ((w.alloc (.cells (rfV A n c bad) 34)).alloc (.cells #[.int .i64 3, .int .i64 most] 40)) 34 (rfV none 0 0 false)
  have hb := ((((Later.refl w).alloc (.cells (rfV A n c bad) 34)).alloc (.cells #[.int .i64 3, .int .i64 most] 40)).alloc (.cells (rfV none 0 0 false) 34))
  have hgl := hw.lt
  refine Calls.post fun Φ HΦ => ?_
  go_enter Try.func16, Try.ntmps16
  go_upto_region 1 with (first
    | (with_reducible refine wpList_alloc rfl 34 rfl (allocRf _) ?_)
    | fail)
  simp only [World.size_alloc] at k5 k6 ⊢
  obtain ⟨q, hq⟩ : ∃ q, q = w.heap.size := ⟨_, rfl⟩
  rw [← hq] at k4 k5 k6 hgl ⊢
  generalize ((w.alloc (.cells (rfV A n c bad) 34)).alloc (.cells #[.int .i64 3, .int .i64 most] 40)).alloc (.cells (rfV none 0 0 false) 34) = w1 at *
  have HQ := Lib.hid hq
  have HN := Lib.hid hn
  clear hq hn
  have c50 : w1.cell? ⟨q + 1, 0, none⟩ = some (.int .i64 3) := (k5.cell 0).trans rfl
  have c51 : w1.cell? ⟨q + 1, 1, none⟩ = some (.int .i64 most) := (k5.cell 1).trans rfl
  have hld := loadRf k4
  obtain ⟨z, hz⟩ : ∃ z, Wr.clamp most = z := ⟨_, rfl⟩
  rw [hz] at HΦ
  have hnum := refTextR_any A n c l bad z w1 HN.out hc hcm hnm (hr.later hb)
  have hw1 := hw.later hb
  have hnum3 := fun W (h : IsRd W g l bad) => text_any g l bad z W h
  unfold Wr.clamp at hz
  obtain ⟨m1, hm1⟩ : ∃ m, (if most < 1099511627776 then most else 1099511627776) = m := ⟨_, rfl⟩
  rw [hm1] at hz
  generalize Wr.textR l bad z = R at *
  obtain ⟨⟨l', bad'⟩, x, no⟩ := R
  go_upto_region 18 with (first
    | (refine wpList_load rfl 34 (.tmp 4) rfl (.pointer (some ⟨q, 0, none⟩)) rfl hld ?_)
    | (go_at_call 45; refine hnum.mono ?_; clear hnum; rintro e w2 ⟨hL2, v, rfl, D, c2, rfl, hcc, hcm2, hD⟩; obtain ⟨w3, hst, k83, hg3⟩ := storeRf (A' := D) (n' := l'.length) (c' := c2) (bad' := bad') (Row.new w2 34 (rfV none 0 0 false)))
    | (with_reducible refine wpList_alloc rfl 34 rfl (allocRf _) ?_)
    | (refine wpList_store rfl 34 (.tmp 24) (.tmp 116) rfl (.pointer (some ⟨w2.heap.size, 0, none⟩)) (.agg (rfV D l'.length c2 bad')) rfl rfl hst ?_; have hL23 : Later w2 w3 := ((Later.refl w2).alloc (.cells (rfV none 0 0 false) 34)).grown hg3 (by simp) (fun j e => by cases e; omega); have c513 := (hL2.step hL23).cell c51; have hnum3 := hnum3 w3 (hw1.later (hL2.step hL23)))
    | (go_at_call 22; refine hnum3.mono ?_; clear hnum3; rintro e w4 ⟨hs4, rfl, hw4⟩)
    | fail)
  have hlt8 := k83.lt
  have hs14 : Later w1 w3 := hL2.step hL23
  have k63 := k6.later hs14
  have hlt6 := k63.lt
  obtain ⟨q8, hq8⟩ : ∃ q, q = w2.heap.size := ⟨_, rfl⟩
  rw [← hq8] at k83 hlt8 ⊢
  have hlt62 := (k6.later hL2).lt
  have k84 := k83.same hs4 ⟨hlt8, by have := hb.size; have := hL2.size; have := hw1.lt; omega⟩
  have k64 := k63.same hs4 ⟨hlt6, by omega⟩
  have hne8 : q8 ≠ q + 1 + 1 := by omega
  have hS : Same (fun k => k < w.heap.size ∧ k ≠ g) w w4 := ((Same.of_below hb).mono (fun k h => h.1)).trans (((Same.of_below hs14).mono (fun k h => Nat.lt_of_lt_of_le h.1 hb.size)).trans (hs4.mono (fun k h => ⟨Nat.lt_of_lt_of_le h.1 (Nat.le_trans hb.size hs14.size), h.2⟩)))
  have hfin : ∀ W, Later w4 W → ∀ W', W.grownBy W' (some (q + 1 + 1)) → Same (fun k => k < w.heap.size ∧ k ≠ g) w W' ∧ IsRd W' g l' bad' := fun W hL W' hg => by
    have h1 := hw4.later hL
    have k6W := k64.later hL
    have hs := Same.of_grown hg
    have hq := HQ.out
    have hsz := hL.size
    have hgW := h1.lt
    refine ⟨(hS.trans ((Same.of_below hL).mono fun k h => ?_)).trans (hs.mono fun k h => ⟨?_, ?_⟩), h1.same hs ⟨hgW, ?_⟩ fun b o x hc => ⟨block_lt_of_cell hc, fun e => rf_no_byte k6W hc (Option.some.inj e)⟩⟩
    · have := hS.size; have := h.1; omega
    · have := hS.size; have := h.1; omega
    · intro e; have := Option.some.inj e; have := h.1; omega
    · intro e; have := Option.some.inj e; omega
  have H8 := Lib.hid hq8
  have HS := Lib.hid hfin
  clear hfin hS hs4 hq8 hst hg3 hL23 c513
  refine (wpIn_wide (n := 0)).1 ?_
  refine wpIn_region_pivot wide_wide 10 [.agg (rfV D l'.length c2 bad'), .string ⟨x.toArray⟩, .string ⟨x.toArray⟩, .bool true, .bool true, .int .i64 no, .int .i64 no, .int .i64 no, .bool true, .bool true, undef] (fun W => Later w4 W) (fun y W => ∃ X W', Later w4 X ∧ X.grownBy W' (some (q + 1 + 1)) ∧ Later W' W ∧ Row W (q + 1 + 1) 34 (rfV D l'.length c2 bad') ∧ Row W q8 34 (rfV D l'.length c2 bad')) (fun W W' h k => k.step h) (fun y W W' h ⟨X, X', h1, h2, h3, h4, h5⟩ => ⟨X, X', h1, h2, h3.step h, h4.later h, h5.later h⟩) (Later.refl _) (by kernel_rfl) (by kernel_rfl) (by kernel_rfl) (by kernel_rfl) (by kernel_rfl) (by kernel_rfl) rfl (by kernel_rfl) (by kernel_rfl) ⟨?_, ?_, ?_, ?_, ?_, ?_, ?_, ?_, ?_, ?_, ?_, trivial⟩ ?_
  · exact fun ac W dd xx he => stepOk_want rfl (op_load rfl (he.keep (.tmp 24) (by kernel_rfl)) (loadRf (he.both (C := fun W => Row W q8 34 (rfV D l'.length c2 bad')) (fun W h => k84.later h) (fun y W ⟨_, _, _, _, _, _, h5⟩ => h5))) rfl)
  · exact fun ac W dd xx he => stepOk_want rfl (op_move rfl (he.keep (.tmp 27) (by kernel_rfl)))
  · exact fun ac W dd xx he => stepOk_want rfl (op_move rfl (he.keep (.tmp 25) (by kernel_rfl)))
  · exact fun ac W dd xx he => stepOk_want rfl (op_binOp rfl (show ac.eval (.tmp 126) = .string ⟨x.toArray⟩ from he.val 1 126 (by kernel_rfl) rfl rfl) (show ac.eval (.tmp 127) = .string ⟨x.toArray⟩ from he.val 2 127 (by kernel_rfl) rfl rfl) eqgS (eqlS_self _ _) rfl)
  · exact fun ac W dd xx he => stepOk_want rfl (op_move rfl (show ac.eval (.tmp 128) = .bool true from he.val 3 128 (by kernel_rfl) rfl rfl))
  · exact fun ac W dd xx he => stepOk_yes (j := 4) (t := 129) (b := true) rfl rfl (show ac.eval (.tmp 129) = .bool true from he.val 4 129 (by kernel_rfl) rfl rfl) (op_move rfl (he.keep (.tmp 28) (by kernel_rfl)))
  · intro ac W dd xx he; refine stepOk_yes (j := 4) (t := 129) (b := true) rfl rfl (show ac.eval (.tmp 129) = .bool true from he.val 4 129 (by kernel_rfl) rfl rfl) ?_; have e0 : ac.eval (.tmp 130) = .int .i64 no := (show ac.eval (.tmp 130) = .int .i64 no from he.val 5 130 (by kernel_rfl) rfl rfl); exact op_callF (vs := #[.int .i64 no]) rfl (by simp only [List.map_toArray, List.map_cons, List.map_nil, e0]) (enters_of Try.func13 (by kernel_rfl) rfl) ((numE_any no W).mono fun e W' ⟨he', hw'⟩ => ⟨_, he', hw' ▸ Later.refl _, rfl⟩)
  · exact fun ac W dd xx he => stepOk_yes (j := 4) (t := 129) (b := true) rfl rfl (show ac.eval (.tmp 129) = .bool true from he.val 4 129 (by kernel_rfl) rfl rfl) (op_move rfl (he.keep (.tmp 26) (by kernel_rfl)))
  · exact fun ac W dd xx he => stepOk_yes (j := 4) (t := 129) (b := true) rfl rfl (show ac.eval (.tmp 129) = .bool true from he.val 4 129 (by kernel_rfl) rfl rfl) (op_binOp rfl (show ac.eval (.tmp 131) = .int .i64 no from he.val 6 131 (by kernel_rfl) rfl rfl) (show ac.eval (.tmp 132) = .int .i64 no from he.val 7 132 (by kernel_rfl) rfl rfl) eqgI (eqlI_self _ _ _) rfl)
  · exact fun ac W dd xx he => stepOk_want rfl (op_pick (b := true) rfl (show ac.eval (.tmp 129) = .bool true from he.val 4 129 (by kernel_rfl) rfl rfl) (show ac.eval (.tmp 133) = .bool true from he.val 8 133 (by kernel_rfl) rfl rfl))
  · intro ac W he hA; refine ⟨rfl, ?_⟩; have e6 := (he.keep (.tmp 6) (by kernel_rfl)); have e125 := (show ac.eval (.tmp 125) = .agg (rfV D l'.length c2 bad') from he.val 0 125 (by kernel_rfl) rfl rfl); obtain ⟨W', hst, hrow', hg'⟩ := storeRf (A' := D) (n' := l'.length) (c' := c2) (bad' := bad') (k64.later hA); exact op_storeK rfl e6 e125 hst ⟨_, rfl, W, W', hA, hg', Later.refl _, hrow', (k84.later hA).grown hg' (fun e => hne8 (Option.some.inj e))⟩
  · intro xs W y hB hx hk hg
    refine last_assign (vx := .bool true) rfl ((hg 9 134 (by decide) (by kernel_rfl)).trans (hx 9 (by decide))) ?_
    clear hx hk hg
    obtain ⟨X, W', h1, h2, h3, h4, h5⟩ := hB
    have hf := HS.out X h1 W' h2
    have k6W := h4
    clear h1 h2 h4 h5 k84 k64 hw4
    simp only [initL, lastL, putL, Nat.reduceAdd, Act.put, List.setIfInBounds_toArray, List.set_cons_succ, List.set_cons_zero]
    go_wp2_with fail
    exact bodyPost_ret (results_ask rfl rfl rfl k6W Try.underlying34 rfl infoRf) rfl (HΦ.out _ _ ⟨hf.1.trans ((Same.of_below h3).mono fun k h => Nat.lt_of_lt_of_le h.1 hf.1.size), hf.2.later h3, _, rfl, D, c2, rfl, hcc, hcm2, hD⟩)
end Go.Proofs.Ytmipaacobioakaa
