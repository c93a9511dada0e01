/- Walks, msgs: the document's reader: hash. -/
import Derived.Test.YtcajhdmppfiaeaaGreatGl14
set_option linter.unusedVariables false
set_option linter.unusedSimpArgs false
namespace Go.Proofs.YtcajhdmppfiaeaaGreat
open Go.RowKit Ms
theorem allocHz (w : World) : (Instr.alloc 24 true (.tuple #[])).run Tryz.prog w = .ok (.pointer (some ⟨w.heap.size, 0, none⟩)) (w.alloc (.cells (hC []) 24)) := by kernel_rfl
theorem storeHz {w : World} {g : Nat} {a x : List UInt8} (ha : a.length ≤ 32) (hx : x.length ≤ 32) (hr : Row w g 24 (hC a)) : ∃ w', (Instr.storeAt 24 (.pointer (some ⟨g, 0, none⟩)) (.agg (hC x))).run Tryz.prog w = .ok () w' ∧ Row w' g 24 (hC x) ∧ w.grownBy w' (some g) := by
  have h1 := hC_size a ha
  have h2 := hC_size x hx
  refine ⟨_, run_store_row hr (hC x) (by rw [h2]; exact infoH) (by rw [h1, h2]; decide) (hC_one x), ?_, grown_setCells _ _ _⟩
  have hr2 := row_setCells (hC x).toList 0 w _ hr
  rwa [setFrom_whole _ _ (by rw [Array.length_toList, h1, h2]), Array.toArray_toList] at hr2
theorem loadHy {w : World} {g : Nat} {x : List UInt8} (hx : x.length ≤ 32) (hr : Row w g 24 (hC x)) : (Instr.loadAt 24 (.pointer (some ⟨g, 0, none⟩))).run Tryz.prog w = .ok (.agg (hC x)) w :=
  run_load_row hr Tryz.underlying24 rfl (by rw [hC_size x hx]; exact infoH)
structure HN (w : World) (q q4 q5 : Nat) (D : Option Addr) (n c : Nat) (bad : Bool) (x : List UInt8) (m : Nat) (W : World) : Prop where
  low : Below w.heap.size w W
  at_ : w.heap.size ≤ q ∧ q + 2 < q4 ∧ q4 < q5
  r4 : Row W q4 102 (rfV D n c bad)
  r5 : Row W q5 24 (hC x)
  r2 : Row W (q + 1) 104 (if m = 0 then rfV none 0 0 false else rfV D n c bad)
  r3 : Row W (q + 2) 24 (hC [])
theorem HN.later {w W W' : World} {q q4 q5 : Nat} {D : Option Addr} {n c : Nat} {bad : Bool} {x : List UInt8} {m : Nat} (h : HN w q q4 q5 D n c bad x m W) (hL : Later W W') : HN w q q4 q5 D n c bad x m W' :=
  ⟨h.low.trans (hL.below.mono h.low.size), h.at_, h.r4.later hL, h.r5.later hL, h.r2.later hL, h.r3.later hL⟩
theorem HN.put {w W : World} {q q4 q5 : Nat} {D : Option Addr} {n c : Nat} {bad : Bool} {x : List UInt8} (h : HN w q q4 q5 D n c bad x 0 W) : ∃ W', (Instr.storeAt 104 (.pointer (some ⟨q + 1, 0, none⟩)) (.agg (rfV D n c bad))).run Tryz.prog W = .ok () W' ∧ HN w q q4 q5 D n c bad x 1 W' := by
  obtain ⟨a1, a2, a3⟩ := h.at_
  obtain ⟨W', h1, h2, h3⟩ := storeR1 (A' := D) (n' := n) (c' := c) (bad' := bad) h.r2
  exact ⟨W', h1, h.low.grown h3 h.low.size (fun j e => by injection e with e; omega), h.at_, h.r4.grown h3 (fun e => by injection e with e; omega), h.r5.grown h3 (fun e => by injection e with e; omega), h2, h.r3.grown h3 (fun e => by injection e with e; omega)⟩
set_option maxRecDepth 100000 in
set_option maxHeartbeats 2000000 in
theorem rdHash_any {A0 : Option Addr} {l0 l : List UInt8} {v : Value} {bad : Bool} (hv : RefV A0 l0 v l bad) (w : World) (hX : Rd w A0 l0) (hl : l.length ≤ 9223372036854775000) :
    Calls Tryz.prog 100 #[v] w fun e w' => Later w w' ∧ ∃ v', e = .returned (.tuple #[v', .agg (hC (Wr.hashR l bad).2.1)]) ∧ RefV A0 l0 v' (Wr.hashR l bad).1.1 (Wr.hashR l bad).1.2 := by
  obtain ⟨D0, c0, rfl, hc, hcm, hD0⟩ := hv
  have hrd := hD0 w hX
  have k1 := ((Row.new w 104 (rfV D0 l.length c0 bad)).alloc (.cells (rfV none 0 0 false) 104)).alloc (.cells (hC []) 24)
  have k2 := (Row.new (w.alloc (.cells (rfV D0 l.length c0 bad) 104)) 104 (rfV none 0 0 false)).alloc (.cells (hC []) 24)
  have k3 := Row.new ((w.alloc (.cells (rfV D0 l.length c0 bad) 104)).alloc (.cells (rfV none 0 0 false) 104)) 24 (hC [])
  have hb := ((((Later.refl w).alloc (.cells (rfV D0 l.length c0 bad) 104)).alloc (.cells (rfV none 0 0 false) 104)).alloc (.cells (hC []) 24))
  have HD0 := Lib.hid hD0
  clear hD0 hX
  refine Calls.post fun Φ HΦ => ?_
  go_enter Tryz.func100, Tryz.ntmps100
  go_upto_region 1 with (first
    | (with_reducible refine wpList_alloc rfl 104 rfl (allocR1 _) ?_)
    | (with_reducible refine wpList_alloc rfl 24 rfl (allocHz _) ?_)
    | fail)
  simp only [World.size_alloc] at k2 k3 ⊢
  obtain ⟨q, hq⟩ : ∃ q, q = w.heap.size := ⟨_, rfl⟩
  rw [← hq] at k1 k2 k3 ⊢
  generalize ((w.alloc (.cells (rfV D0 l.length c0 bad) 104)).alloc (.cells (rfV none 0 0 false) 104)).alloc (.cells (hC []) 24) = w1 at *
  have HQ := Lib.hid hq
  clear hq
  have hld := loadR14 k1
  have hlen := Wr.hashR_len l bad
  have hh := refHashR_any D0 l.length c0 l bad w1 rfl hc hcm (hrd.later hb)
  obtain ⟨R, hR⟩ : ∃ R, Wr.hashR l bad = R := ⟨_, rfl⟩
  rw [hR] at hh HΦ hlen
  clear hR hrd hc hcm hl
  obtain ⟨⟨l', bad'⟩, x, no⟩ := R
  simp only at hh HΦ hlen
  have hx32 : x.length ≤ 32 := by rcases hlen with h | h <;> simp [h]
  clear hlen
  have HX := Lib.hid hx32
  clear hx32
  generalize l.length = n at *
  go_upto_region 2 with (first
    | (refine wpList_load rfl 102 (.tmp 8) rfl (.pointer (some ⟨q, 0, none⟩)) rfl hld ?_)
    | (go_at_call 57; refine hh.mono ?_; clear hh; rintro e w2 ⟨hL2, v, rfl, D, c2, rfl, hcc, hcm2, hD⟩; obtain ⟨w3, hst, k43, hg3⟩ := storeRf (A' := D) (n' := l'.length) (c' := c2) (bad' := bad') ((Row.new w2 102 (rfV none 0 0 false)).alloc (.cells (hC []) 24)); obtain ⟨w4, hst4, k54, hg4⟩ := storeHz (x := x) (by decide) HX.out ((Row.new (w2.alloc (.cells (rfV none 0 0 false) 102)) 24 (hC [])).grown hg3 (fun e => by injection e with e; simp at e)))
    | (with_reducible refine wpList_alloc rfl 102 rfl (allocRf _) ?_)
    | (with_reducible refine wpList_alloc rfl 24 rfl (allocHz _) ?_)
    | (refine wpList_store rfl 102 (.tmp 4) (.tmp 11) rfl (.pointer (some ⟨w2.heap.size, 0, none⟩)) (.agg (rfV D l'.length c2 bad')) rfl rfl hst ?_)
    | (refine wpList_store rfl 24 (.tmp 5) (.tmp 12) rfl (.pointer (some ⟨(w2.alloc (.cells (rfV none 0 0 false) 102)).heap.size, 0, none⟩)) (.agg (hC x)) rfl rfl hst4 ?_)
    | fail)
  simp only [World.size_alloc] at hst4 k54 hg4 ⊢
  have hL24 : Later w2 w4 := ((((Later.refl w2).alloc (.cells (rfV none 0 0 false) 102)).alloc (.cells (hC []) 24)).grown hg3 (by simp; omega) (fun j e => by cases e; omega)).grown hg4 (by have := hg3.size; simp at this; omega) (fun j e => by cases e; omega)
  have hA0 : HN w q w2.heap.size (w2.heap.size + 1) D l'.length c2 bad' x 0 w4 := ⟨hb.step (hL2.step hL24), ⟨Nat.le_of_eq HQ.out.symm, (k3.later hL2).lt, Nat.lt_succ_self _⟩, k43.grown hg4 (fun e => by injection e with e; omega), k54, k2.later (hL2.step hL24), k3.later (hL2.step hL24)⟩
  generalize w2.heap.size = q4 at *
  generalize q4 + 1 = q5 at *
  clear hst hst4 hg3 hg4 hld k1 k2 k3 k43 k54 hb hL24 hL2
  refine (wpIn_wide (n := 0)).1 ?_
  refine wpIn_region_chain wide_wide [.agg (rfV D l'.length c2 bad'), .agg (rfV D l'.length c2 bad'), .agg (hC x), undef] [3] (HN w q q4 q5 D l'.length c2 bad' x) (fun m W W' hL h => h.later hL) hA0 (by kernel_rfl) (by kernel_rfl) (by kernel_rfl) (by kernel_rfl) (by kernel_rfl) (by kernel_rfl) rfl (by decide) rfl ⟨?_, ?_, ?_, ?_, trivial⟩ ?_
  · exact chStep_val rfl (fun ac W m he hA => stepOk_want rfl (op_load rfl (he.keep (.tmp 4) (by kernel_rfl)) (loadRf hA.r4) rfl))
  · exact chStep_val rfl (fun ac W m he hA => by
      refine stepOk_want rfl ?_
      have e0 : ac.eval (.tmp 14) = .agg (rfV D l'.length c2 bad') := he.val 0 14 (by kernel_rfl) rfl rfl
      exact op_buildR rfl (by simp only [List.map_toArray, List.map_cons, List.map_nil, e0]) (buildR1 _ _ _ _ W) rfl)
  · exact chStep_val rfl (fun ac W m he hA => stepOk_want rfl (op_load rfl (he.keep (.tmp 5) (by kernel_rfl)) (loadHy HX.out hA.r5) rfl))
  · refine chStep_put (k := 0) rfl (.inl rfl) (fun ac W he hA => ⟨rfl, ?_⟩)
    obtain ⟨W', hr, hA'⟩ := HN.put hA
    exact op_storeK rfl (he.keep (.tmp 2) (by kernel_rfl)) (show ac.eval (.tmp 15) = .agg (rfV D l'.length c2 bad') from he.val 1 15 (by kernel_rfl) rfl rfl) hr ⟨undef, rfl, hA'⟩
  intro xs W hA hx hk hgt
  have hA : HN w q q4 q5 D l'.length c2 bad' x 1 W := hA
  obtain ⟨W', hr, h7, h8⟩ := storeHz (x := x) (by decide) HX.out hA.r3
  refine last_store rfl rfl (hk (.tmp 3) (by kernel_rfl)) ((hgt 2 16 (by decide) (by kernel_rfl)).trans (show xs 2 = .agg (hC x) from hx 2 (by decide) rfl)) hr ?_
  have hlow := hA.low.grown h8 hA.low.size (fun j e => by injection e with e; have := hA.at_; omega)
  have k22 : Row W' (q + 1) 104 (rfV D l'.length c2 bad') := hA.r2.grown h8 (fun e => by injection e with e; omega)
  clear hx hk hgt hA hA0 hr h8
  simp only [initL, lastL, putL, Nat.reduceAdd, Act.put, List.setIfInBounds_toArray, List.set_cons_succ, List.set_cons_zero]
  go_wp2_with fail
  exact bodyPost_ret (results_cc rfl _ _ (q + 1) (q + 2) 104 (rfV D l'.length c2 bad') _ (.agg (hC x)) rfl rfl k22 Tryz.underlying104 rfl infoR1 (run_loadVar_row _ _ _ _ _ (0, 0) _ h7 Tryz.underlying24 rfl (by rw [hC_size x HX.out]; exact infoH))) rfl (HΦ.out _ _ ⟨hlow, _, rfl, D, c2, rfl, hcc, hcm2, fun X h => hD X (HD0.out X h)⟩)
end Go.Proofs.YtcajhdmppfiaeaaGreat
