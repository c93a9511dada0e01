/- Walks: a hash asked of both readers. -/
import Derived.Test.YtmipaacobioakaaWr26
set_option linter.unusedVariables false
set_option linter.unusedSimpArgs false
namespace Go.Proofs.Ytmipaacobioakaa
open Go.RowKit
theorem hC_zeros : hC [] = hC (Sha.zeros 32) := by kernel_rfl
theorem eqlHz (x : List UInt8) (h : x = [] ∨ x.length = 32) (W : World) : (binOp .eql 53 (.agg (hC x)) (.agg (hC x))).run Try.prog W = .ok (.bool true) W := by
  rcases h with rfl | h
  · rw [hC_zeros]
    exact eqlSame _ rfl W
  · exact eqlSame x h W
set_option maxRecDepth 100000 in
set_option maxHeartbeats 1000000 in
theorem ask2_any (g : Nat) (A : Option Addr) (n c : Nat) (l : List UInt8) (bad : Bool) (most : Int) (w : World) (hn : l.length = n) (hc : n ≤ c) (hcm : c ≤ 9223372036854775807) (hnm : n ≤ 9223372036854775000) (hr : Rd w A l) (hw : IsRd w g l bad) :
    Calls Try.prog 16 #[.pointer (some ⟨g, 0, none⟩), .agg (rfV A n c bad), .agg #[.int .i64 2, .int .i64 most]] w (Asked w g A l (Wr.hashR l bad).1.1 (Wr.hashR l bad).1.2) := by
  have k4 := ((Row.new w 34 (rfV A n c bad)).alloc (.cells #[.int .i64 2, .int .i64 most] 40)).alloc (.cells (rfV none 0 0 false) 34)
  have k5 := (Row.new (w.alloc (.cells (rfV A n c bad) 34)) 40 #[.int .i64 2, .int .i64 most]).alloc (.cells (rfV none 0 0 false) 34)
  have k6 := Row.new ((w.alloc (.cells (rfV A n c bad) 34)).alloc (.cells #[.int .i64 2, .int .i64 most] 40)) 34 (rfV none 0 0 false)
  have hb := ((((Later.refl w).alloc (.cells (rfV A n c bad) 34)).alloc (.cells #[.int .i64 2, .int .i64 most] 40)).alloc (.cells (rfV none 0 0 false) 34))
  have hgl := hw.lt
  refine Calls.post fun Φ HΦ => ?_
  go_enter Try.func16, Try.ntmps16
  go_upto_region 1 with (first
    | (with_reducible refine wpList_alloc rfl 34 rfl (allocRf _) ?_)
    | fail)
  simp only [World.size_alloc] at k5 k6 ⊢
  obtain ⟨q, hq⟩ : ∃ q, q = w.heap.size := ⟨_, rfl⟩
  rw [← hq] at k4 k5 k6 hgl ⊢
  generalize ((w.alloc (.cells (rfV A n c bad) 34)).alloc (.cells #[.int .i64 2, .int .i64 most] 40)).alloc (.cells (rfV none 0 0 false) 34) = w1 at *
  have HQ := Lib.hid hq
  have HN := Lib.hid hn
  clear hq hn
  have c50 : w1.cell? ⟨q + 1, 0, none⟩ = some (.int .i64 2) := (k5.cell 0).trans rfl
  have c51 : w1.cell? ⟨q + 1, 1, none⟩ = some (.int .i64 most) := (k5.cell 1).trans rfl
  have hld := loadRf k4
  have hnum := refHashR_any A n c l bad w1 HN.out hc hcm (hr.later hb)
  have hxl := Wr.hashR_len l bad
  have hw1 := hw.later hb
  have hnum3 := fun W (h : IsRd W g l bad) => hash_any g l bad W h
  generalize Wr.hashR l bad = R at *
  obtain ⟨⟨l', bad'⟩, x, no⟩ := R
  simp only at hxl
  have hx32 : x.length ≤ 32 := by rcases hxl with h | h <;> simp [h]
  have hxx : ∀ W, (binOp .eql 53 (.agg (hC x)) (.agg (hC x))).run Try.prog W = .ok (.bool true) W := fun W => eqlHz x hxl W
  have HX := Lib.hid hx32
  have HXX := Lib.hid hxx
  clear hx32 hxx hxl
  go_upto_region 12 with (first
    | (refine wpList_load rfl 34 (.tmp 4) rfl (.pointer (some ⟨q, 0, none⟩)) rfl hld ?_)
    | (go_at_call 44; refine hnum.mono ?_; clear hnum; rintro e w2 ⟨hL2, v, rfl, D, c2, rfl, hcc, hcm2, hD⟩; obtain ⟨w3, hst, k83, hg3⟩ := storeRf (A' := D) (n' := l'.length) (c' := c2) (bad' := bad') ((Row.new w2 34 (rfV none 0 0 false)).alloc (.cells (hC []) 53)); have hL23 : Later w2 w3 := (((Later.refl w2).alloc (.cells (rfV none 0 0 false) 34)).alloc (.cells (hC []) 53)).grown hg3 (by simp only [World.size_alloc]; omega) (fun j e => by cases e; omega); have k93a := (Row.new (w2.alloc (.cells (rfV none 0 0 false) 34)) 53 (hC [])).grown hg3 (by simp); obtain ⟨w4, hst4, k94, hg4⟩ := storeH (a := []) (b := x) (by simp) HX.out k93a)
    | (with_reducible refine wpList_alloc rfl 34 rfl (allocRf _) ?_)
    | (with_reducible refine wpList_alloc rfl 53 rfl (allocH _) ?_)
    | (refine wpList_store rfl 34 (.tmp 18) (.tmp 88) rfl (.pointer (some ⟨w2.heap.size, 0, none⟩)) (.agg (rfV D l'.length c2 bad')) rfl rfl hst ?_)
    | (refine wpList_store rfl 53 (.tmp 19) (.tmp 89) rfl (.pointer (some ⟨(w2.alloc (.cells (rfV none 0 0 false) 34)).heap.size, 0, none⟩)) (.agg (hC x)) rfl rfl hst4 ?_)
    | fail)
  simp only [World.size_alloc] at k93a k94 hg4 ⊢
  have hs14 : Later w1 w3 := hL2.step hL23
  have k63 := k6.later hs14
  have hlt62 := (k6.later hL2).lt
  have hlt83 := k83.lt
  have hlt93 := k93a.lt
  obtain ⟨q8, hq8⟩ : ∃ q, q = w2.heap.size := ⟨_, rfl⟩
  rw [← hq8] at k83 k93a k94 hg4 hlt83 hlt93 hlt62 ⊢
  have hL34 : Later w2 w4 := hL23.grown hg4 hL23.size (fun j e => by cases e; omega)
  have k84 := k83.grown hg4 (fun e => by have := Option.some.inj e; omega)
  have k64 := k63.grown hg4 (fun e => by have := Option.some.inj e; omega)
  have hs15 : Later w1 w4 := hL2.step hL34
  have hnum3' := hnum3 w4 (hw1.later hs15)
  have HQ8 := Lib.hid hq8
  have hlt84 := k84.lt
  have hlt94 := k94.lt
  have hlt64 := k64.lt
  clear hst hst4 hg3 hg4 hL23 hL34 k63 k83 k93a hs14 hq8 hnum3 hlt83 hlt93
  go_upto_region 13 with (first
    | (go_at_call 21; refine hnum3'.mono ?_; clear hnum3'; rintro e w5 ⟨hs5, rfl, hw5⟩; obtain ⟨w6, hst6, k216, hg6⟩ := storeH (a := []) (b := x) (by simp) HX.out (Row.new w5 53 (hC [])))
    | (with_reducible refine wpList_alloc rfl 53 rfl (allocH _) ?_)
    | (refine wpList_store rfl 53 (.tmp 21) (.tmp 94) rfl (.pointer (some ⟨w5.heap.size, 0, none⟩)) (.agg (hC x)) rfl rfl hst6 ?_)
    | fail)
  have hL56 : Later w5 w6 := ((Later.refl w5).alloc (.cells (hC []) 53)).grown hg6 (by simp) (fun j e => by cases e; omega)
  have hgw := hw1.lt
  have k85 := (k84.same hs5 ⟨hlt84, by have := hgl; have := HQ8.out; have := hlt62; have := hb.size; omega⟩).later hL56
  have k95 := (k94.same hs5 ⟨hlt94, by have := hgl; have := HQ8.out; have := hlt62; have := hb.size; omega⟩).later hL56
  have k65 := (k64.same hs5 ⟨hlt64, by omega⟩).later hL56
  obtain ⟨q21, hq21⟩ : ∃ q, q = w5.heap.size := ⟨_, rfl⟩
  rw [← hq21] at k216 ⊢
  have hsz5 := hs5.size
  have hne8 : q8 ≠ q + 1 + 1 := by omega
  have hne9 : q8 + 1 ≠ q + 1 + 1 := by omega
  have hne21 : q21 ≠ q + 1 + 1 := by omega
  have hw6 := hw5.later hL56
  have hS : Same (fun k => k < w.heap.size ∧ k ≠ g) w w6 := (((Same.of_below hb).mono (fun k h => h.1)).trans (((Same.of_below hs15).mono (fun k h => Nat.lt_of_lt_of_le h.1 hb.size)).trans (hs5.mono (fun k h => ⟨Nat.lt_of_lt_of_le h.1 (Nat.le_trans hb.size hs15.size), h.2⟩)))).trans ((Same.of_below hL56).mono (fun k h => Nat.lt_of_lt_of_le h.1 (Nat.le_trans hb.size (Nat.le_trans hs15.size hsz5))))
  have HQ21 := Lib.hid hq21
  clear hq21 hst6 hg6 hs5 hw5 k84 k94 k64 hL56 hsz5 hlt84 hlt94 hlt64
  have hfin : ∀ W, Later w6 W → ∀ W', W.grownBy W' (some (q + 1 + 1)) → Same (fun k => k < w.heap.size ∧ k ≠ g) w W' ∧ IsRd W' g l' bad' := fun W hL W' hg => by
    have h1 := hw6.later hL
    have k6W := k65.later hL
    have hs := Same.of_grown hg
    have hq := HQ.out
    have hsz := hL.size
    have hgW := h1.lt
    refine ⟨(hS.trans ((Same.of_below hL).mono fun k h => ?_)).trans (hs.mono fun k h => ⟨?_, ?_⟩), h1.same hs ⟨hgW, ?_⟩ fun b o x hc => ⟨block_lt_of_cell hc, fun e => rf_no_byte k6W hc (Option.some.inj e)⟩⟩
    · have := hS.size; have := h.1; omega
    · have := hS.size; have := h.1; omega
    · intro e; have := Option.some.inj e; have := h.1; omega
    · intro e; have := Option.some.inj e; omega
  have HS := Lib.hid hfin
  clear hfin hS
  refine (wpIn_wide (n := 0)).1 ?_
  refine wpIn_region_pivot wide_wide 10 [.agg (rfV D l'.length c2 bad'), .agg (hC x), .agg (hC x), .bool true, .bool true, .int .i64 no, .int .i64 no, .int .i64 no, .bool true, .bool true, undef] (fun W => Later w6 W) (fun y W => ∃ X W', Later w6 X ∧ X.grownBy W' (some (q + 1 + 1)) ∧ Later W' W ∧ Row W (q + 1 + 1) 34 (rfV D l'.length c2 bad') ∧ Row W q8 34 (rfV D l'.length c2 bad') ∧ Row W (q8 + 1) 53 (hC x) ∧ Row W q21 53 (hC x)) (fun W W' h k => k.step h) (fun y W W' h ⟨X, X', h1, h2, h3, h4, h5, h6, h7⟩ => ⟨X, X', h1, h2, h3.step h, h4.later h, h5.later h, h6.later h, h7.later h⟩) (Later.refl _) (by kernel_rfl) (by kernel_rfl) (by kernel_rfl) (by kernel_rfl) (by kernel_rfl) (by kernel_rfl) rfl (by kernel_rfl) (by kernel_rfl) ⟨?_, ?_, ?_, ?_, ?_, ?_, ?_, ?_, ?_, ?_, ?_, trivial⟩ ?_
  · exact fun ac W dd xx he => stepOk_want rfl (op_load rfl (he.keep (.tmp 18) (by kernel_rfl)) (loadRf (he.both (C := fun W => Row W q8 34 (rfV D l'.length c2 bad')) (fun W h => k85.later h) (fun y W ⟨_, _, _, _, _, _, h5, _, _⟩ => h5))) rfl)
  · exact fun ac W dd xx he => stepOk_want rfl (op_load rfl (he.keep (.tmp 21) (by kernel_rfl)) (loadHz HX.out (he.both (C := fun W => Row W q21 53 (hC x)) (fun W h => k216.later h) (fun y W ⟨_, _, _, _, _, _, _, _, h7⟩ => h7))) rfl)
  · exact fun ac W dd xx he => stepOk_want rfl (op_load rfl (he.keep (.tmp 19) (by kernel_rfl)) (loadHz HX.out (he.both (C := fun W => Row W (q8 + 1) 53 (hC x)) (fun W h => k95.later h) (fun y W ⟨_, _, _, _, _, _, _, h6, _⟩ => h6))) rfl)
  · exact fun ac W dd xx he => stepOk_want rfl (op_binOp rfl (show ac.eval (.tmp 97) = .agg (hC x) from he.val 1 97 (by kernel_rfl) rfl rfl) (show ac.eval (.tmp 98) = .agg (hC x) from he.val 2 98 (by kernel_rfl) rfl rfl) (eqgHash _ _ _ _ _ W) (HXX.out W) rfl)
  · exact fun ac W dd xx he => stepOk_want rfl (op_move rfl (show ac.eval (.tmp 99) = .bool true from he.val 3 99 (by kernel_rfl) rfl rfl))
  · exact fun ac W dd xx he => stepOk_yes (j := 4) (t := 100) (b := true) rfl rfl (show ac.eval (.tmp 100) = .bool true from he.val 4 100 (by kernel_rfl) rfl rfl) (op_move rfl (he.keep (.tmp 22) (by kernel_rfl)))
  · intro ac W dd xx he; refine stepOk_yes (j := 4) (t := 100) (b := true) rfl rfl (show ac.eval (.tmp 100) = .bool true from he.val 4 100 (by kernel_rfl) rfl rfl) ?_; have e0 : ac.eval (.tmp 101) = .int .i64 no := (show ac.eval (.tmp 101) = .int .i64 no from he.val 5 101 (by kernel_rfl) rfl rfl); exact op_callF (vs := #[.int .i64 no]) rfl (by simp only [List.map_toArray, List.map_cons, List.map_nil, e0]) (enters_of Try.func13 (by kernel_rfl) rfl) ((numE_any no W).mono fun e W' ⟨he', hw'⟩ => ⟨_, he', hw' ▸ Later.refl _, rfl⟩)
  · exact fun ac W dd xx he => stepOk_yes (j := 4) (t := 100) (b := true) rfl rfl (show ac.eval (.tmp 100) = .bool true from he.val 4 100 (by kernel_rfl) rfl rfl) (op_move rfl (he.keep (.tmp 20) (by kernel_rfl)))
  · exact fun ac W dd xx he => stepOk_yes (j := 4) (t := 100) (b := true) rfl rfl (show ac.eval (.tmp 100) = .bool true from he.val 4 100 (by kernel_rfl) rfl rfl) (op_binOp rfl (show ac.eval (.tmp 102) = .int .i64 no from he.val 6 102 (by kernel_rfl) rfl rfl) (show ac.eval (.tmp 103) = .int .i64 no from he.val 7 103 (by kernel_rfl) rfl rfl) eqgI (eqlI_self _ _ _) rfl)
  · exact fun ac W dd xx he => stepOk_want rfl (op_pick (b := true) rfl (show ac.eval (.tmp 100) = .bool true from he.val 4 100 (by kernel_rfl) rfl rfl) (show ac.eval (.tmp 104) = .bool true from he.val 8 104 (by kernel_rfl) rfl rfl))
  · intro ac W he hA; refine ⟨rfl, ?_⟩; have e6 := (he.keep (.tmp 6) (by kernel_rfl)); have e96 := (show ac.eval (.tmp 96) = .agg (rfV D l'.length c2 bad') from he.val 0 96 (by kernel_rfl) rfl rfl); obtain ⟨W', hst, hrow', hg'⟩ := storeRf (A' := D) (n' := l'.length) (c' := c2) (bad' := bad') (k65.later hA); exact op_storeK rfl e6 e96 hst ⟨_, rfl, W, W', hA, hg', Later.refl _, hrow', (k85.later hA).grown hg' (fun e => hne8 (Option.some.inj e)), (k95.later hA).grown hg' (fun e => hne9 (Option.some.inj e)), (k216.later hA).grown hg' (fun e => hne21 (Option.some.inj e))⟩
  · intro xs W y hB hx hk hg
    refine last_assign (vx := .bool true) rfl ((hg 9 105 (by decide) (by kernel_rfl)).trans (hx 9 (by decide))) ?_
    clear hx hk hg
    obtain ⟨X, W', h1, h2, h3, h4, h5, h6, h7⟩ := hB
    have hf := HS.out X h1 W' h2
    have k6W := h4
    clear h1 h2 h4 h5 h6 h7 k85 k95 k65 k216 hw6
    simp only [initL, lastL, putL, Nat.reduceAdd, Act.put, List.setIfInBounds_toArray, List.set_cons_succ, List.set_cons_zero]
    go_wp2_with fail
    exact bodyPost_ret (results_ask rfl rfl rfl k6W Try.underlying34 rfl infoRf) rfl (HΦ.out _ _ ⟨hf.1.trans ((Same.of_below h3).mono fun k h => Nat.lt_of_lt_of_le h.1 hf.1.size), hf.2.later h3, _, rfl, D, c2, rfl, hcc, hcm2, hD⟩)
end Go.Proofs.Ytmipaacobioakaa
