/- Walks, msgs: the document's reader: number, text. -/
import Derived.Test.YtcajhdmppfiaeaaGreatGk24
set_option linter.unusedVariables false
set_option linter.unusedSimpArgs false
namespace Go.Proofs.YtcajhdmppfiaeaaGreat
open Go.RowKit Ms
theorem infoR1 : (Tryz.prog.info? 104).map (·.size) = some 2 := by kernel_rfl
theorem allocR1 (w : World) : (Instr.alloc 104 true (.tuple #[])).run Tryz.prog w = .ok (.pointer (some ⟨w.heap.size, 0, none⟩)) (w.alloc (.cells (rfV none 0 0 false) 104)) := by kernel_rfl
theorem boxR1 (A : Option Addr) (n c : Nat) (bad : Bool) (w : World) : (Instr.box 104 (.agg (rfV A n c bad))).run Tryz.prog w = .ok (.pointer (some ⟨w.heap.size, 0, none⟩)) (w.alloc (.cells (rfV A n c bad) 104)) := run_box_row w _ _ infoR1
theorem buildR1 (A : Option Addr) (n c : Nat) (bad : Bool) (w : World) : (Instr.build 104 #[(0, .agg (rfV A n c bad))]).run Tryz.prog w = .ok (.agg (rfV A n c bad)) w := by kernel_rfl
theorem loadR1 {w : World} {g : Nat} {A : Option Addr} {n c : Nat} {bad : Bool} (hr : Row w g 104 (rfV A n c bad)) : (Instr.loadAt 104 (.pointer (some ⟨g, 0, none⟩))).run Tryz.prog w = .ok (.agg (rfV A n c bad)) w := run_load_row hr Tryz.underlying104 rfl infoR1
theorem loadR14 {w : World} {g : Nat} {A : Option Addr} {n c : Nat} {bad : Bool} (hr : Row w g 104 (rfV A n c bad)) : (Instr.loadAt 102 (.pointer (some ⟨g, 0, none⟩))).run Tryz.prog w = .ok (.agg (rfV A n c bad)) w := run_load_row hr Tryz.underlying102 rfl infoRf
theorem storeR1 {w : World} {g : Nat} {A A' : Option Addr} {n c n' c' : Nat} {bad bad' : Bool} (hr : Row w g 104 (rfV A n c bad)) : ∃ w', (Instr.storeAt 104 (.pointer (some ⟨g, 0, none⟩)) (.agg (rfV A' n' c' bad'))).run Tryz.prog w = .ok () w' ∧ Row w' g 104 (rfV A' n' c' bad') ∧ w.grownBy w' (some g) :=
  ⟨_, run_store_row hr (rfV A' n' c' bad') infoR1 (by simp) (by kernel_rfl), row_setCells [.slice A' n' c', .bool bad'] 0 w _ hr, grown_setCells _ _ _⟩
set_option maxRecDepth 100000 in
set_option maxHeartbeats 2000000 in
theorem rdNum_any {A0 : Option Addr} {l0 l : List UInt8} {v : Value} {bad : Bool} (hv : RefV A0 l0 v l bad) (most : Int) (w : World) (hX : Rd w A0 l0) (hl : l.length ≤ 9223372036854775000) :
    Calls Tryz.prog 45 #[v, .int .i64 most] w fun e w' => Later w w' ∧ ∃ v', e = .returned (.tuple #[v', .int .i64 (Wr.numR l bad most).2.1]) ∧ RefV A0 l0 v' (Wr.numR l bad most).1.1 (Wr.numR l bad most).1.2 := by
  obtain ⟨D0, c0, rfl, hc, hcm, hD0⟩ := hv
  have hrd := hD0 w hX
  have k2 := (Row.new w 104 (rfV D0 l.length c0 bad)).alloc (.cells (rfV none 0 0 false) 104)
  have k4 := Row.new (w.alloc (.cells (rfV D0 l.length c0 bad) 104)) 104 (rfV none 0 0 false)
  have hb := (((Later.refl w).alloc (.cells (rfV D0 l.length c0 bad) 104)).alloc (.cells (rfV none 0 0 false) 104))
  have HD0 := Lib.hid hD0
  clear hD0 hX
  refine Calls.post fun Φ HΦ => ?_
  go_enter Tryz.func45, Tryz.ntmps45
  go_upto_region 1 with (first
    | (with_reducible refine wpList_alloc rfl 104 rfl (allocR1 _) ?_)
    | fail)
  simp only [World.size_alloc] at k4 ⊢
  obtain ⟨q, hq⟩ : ∃ q, q = w.heap.size := ⟨_, rfl⟩
  rw [← hq] at k2 k4 ⊢
  generalize (w.alloc (.cells (rfV D0 l.length c0 bad) 104)).alloc (.cells (rfV none 0 0 false) 104) = w1 at *
  have HQ := Lib.hid hq
  clear hq
  have hld := loadR14 k2
  have hnum := refNumberR_any D0 l.length c0 l bad most w1 rfl hc hcm hl (hrd.later hb)
  obtain ⟨R, hR⟩ : ∃ R, Wr.numR l bad most = R := ⟨_, rfl⟩
  rw [hR] at hnum HΦ
  clear hR hrd hc hcm hl
  obtain ⟨⟨l', bad'⟩, x, no⟩ := R
  simp only at hnum HΦ
  generalize l.length = n at *
  go_upto_region 2 with (first
    | (refine wpList_load rfl 102 (.tmp 10) rfl (.pointer (some ⟨q, 0, none⟩)) rfl hld ?_)
    | (go_at_call 99; refine hnum.mono ?_; clear hnum; rintro e w2 ⟨hL2, v, rfl, D, c2, rfl, hcc, hcm2, hD⟩; obtain ⟨w3, hst, k63, hg3⟩ := storeRf (A' := D) (n' := l'.length) (c' := c2) (bad' := bad') (Row.new w2 102 (rfV none 0 0 false)))
    | (with_reducible refine wpList_alloc rfl 102 rfl (allocRf _) ?_)
    | (refine wpList_store rfl 102 (.tmp 6) (.tmp 14) rfl (.pointer (some ⟨w2.heap.size, 0, none⟩)) (.agg (rfV D l'.length c2 bad')) rfl rfl hst ?_)
    | fail)
  have hL23 : Later w2 w3 := ((Later.refl w2).alloc (.cells (rfV none 0 0 false) 102)).grown hg3 (by simp) (fun j e => by cases e; omega)
  have k43 := k4.later (hL2.step hL23)
  have hb3 := hb.step (hL2.step hL23)
  obtain ⟨q6, hq6⟩ : ∃ q, q = w2.heap.size := ⟨_, rfl⟩
  rw [← hq6] at k63 ⊢
  have hqw : ∀ j, some (q + 1) = some j → w.heap.size ≤ j := fun j e => by cases e; have := HQ.out; omega
  have hld6 := loadRf k63
  obtain ⟨w4, hst4, k44, hg4⟩ := storeR1 (A' := D) (n' := l'.length) (c' := c2) (bad' := bad') k43
  have hb4 := hb3.grown hg4 hb3.size hqw
  have H4 := Lib.hid hb4
  clear hst hg3 hld k2 k4 hb hL23 hL2 hq6 hg4 hb4 hb3 k43 hqw
  go_wp2_with (first
    | (refine wpList_load rfl 102 (.tmp 6) rfl (.pointer (some ⟨q6, 0, none⟩)) rfl hld6 ?_)
    | (guard_target =~ wpList _ _ _ (_ :: _) _ _; refine wpList_build rfl 104 _ rfl #[(0, .agg (rfV D l'.length c2 bad'))] (by simp only [List.map_toArray, List.map_cons, List.map_nil]; rfl) (buildR1 _ _ _ _ _) ?_)
    | (refine wpList_store rfl 104 (.tmp 4) (.tmp 18) rfl (.pointer (some ⟨q + 1, 0, none⟩)) (.agg (rfV D l'.length c2 bad')) rfl rfl hst4 ?_)
    | fail)
  exact bodyPost_ret (results_cell_tmp rfl _ _ (q + 1) 104 (rfV D l'.length c2 bad') (0, 0) _ (.int .i64 x) rfl rfl k44 Tryz.underlying104 rfl infoR1) rfl (HΦ.out _ _ ⟨H4.out, _, rfl, D, c2, rfl, hcc, hcm2, fun X h => hD X (HD0.out X h)⟩)
set_option maxRecDepth 100000 in
set_option maxHeartbeats 2000000 in
theorem rdText_any {A0 : Option Addr} {l0 l : List UInt8} {v : Value} {bad : Bool} (hv : RefV A0 l0 v l bad) (most : Int) (w : World) (hX : Rd w A0 l0) (hl : l.length ≤ 9223372036854775000) :
    Calls Tryz.prog 101 #[v, .int .i64 most] w fun e w' => Later w w' ∧ ∃ v', e = .returned (.tuple #[v', .string ⟨(Wr.textR l bad most).2.1.toArray⟩]) ∧ RefV A0 l0 v' (Wr.textR l bad most).1.1 (Wr.textR l bad most).1.2 := by
  obtain ⟨D0, c0, rfl, hc, hcm, hD0⟩ := hv
  have hrd := hD0 w hX
  have k2 := (Row.new w 104 (rfV D0 l.length c0 bad)).alloc (.cells (rfV none 0 0 false) 104)
  have k4 := Row.new (w.alloc (.cells (rfV D0 l.length c0 bad) 104)) 104 (rfV none 0 0 false)
  have hb := (((Later.refl w).alloc (.cells (rfV D0 l.length c0 bad) 104)).alloc (.cells (rfV none 0 0 false) 104))
  have HD0 := Lib.hid hD0
  clear hD0 hX
  refine Calls.post fun Φ HΦ => ?_
  go_enter Tryz.func101, Tryz.ntmps101
  go_upto_region 1 with (first
    | (with_reducible refine wpList_alloc rfl 104 rfl (allocR1 _) ?_)
    | fail)
  simp only [World.size_alloc] at k4 ⊢
  obtain ⟨q, hq⟩ : ∃ q, q = w.heap.size := ⟨_, rfl⟩
  rw [← hq] at k2 k4 ⊢
  generalize (w.alloc (.cells (rfV D0 l.length c0 bad) 104)).alloc (.cells (rfV none 0 0 false) 104) = w1 at *
  have HQ := Lib.hid hq
  clear hq
  have hld := loadR14 k2
  have hnum := refTextR_any D0 l.length c0 l bad most w1 rfl hc hcm hl (hrd.later hb)
  obtain ⟨R, hR⟩ : ∃ R, Wr.textR l bad most = R := ⟨_, rfl⟩
  rw [hR] at hnum HΦ
  clear hR hrd hc hcm hl
  obtain ⟨⟨l', bad'⟩, x, no⟩ := R
  simp only at hnum HΦ
  generalize l.length = n at *
  go_upto_region 2 with (first
    | (refine wpList_load rfl 102 (.tmp 10) rfl (.pointer (some ⟨q, 0, none⟩)) rfl hld ?_)
    | (go_at_call 132; refine hnum.mono ?_; clear hnum; rintro e w2 ⟨hL2, v, rfl, D, c2, rfl, hcc, hcm2, hD⟩; obtain ⟨w3, hst, k63, hg3⟩ := storeRf (A' := D) (n' := l'.length) (c' := c2) (bad' := bad') (Row.new w2 102 (rfV none 0 0 false)))
    | (with_reducible refine wpList_alloc rfl 102 rfl (allocRf _) ?_)
    | (refine wpList_store rfl 102 (.tmp 6) (.tmp 14) rfl (.pointer (some ⟨w2.heap.size, 0, none⟩)) (.agg (rfV D l'.length c2 bad')) rfl rfl hst ?_)
    | fail)
  have hL23 : Later w2 w3 := ((Later.refl w2).alloc (.cells (rfV none 0 0 false) 102)).grown hg3 (by simp) (fun j e => by cases e; omega)
  have k43 := k4.later (hL2.step hL23)
  have hb3 := hb.step (hL2.step hL23)
  obtain ⟨q6, hq6⟩ : ∃ q, q = w2.heap.size := ⟨_, rfl⟩
  rw [← hq6] at k63 ⊢
  have hqw : ∀ j, some (q + 1) = some j → w.heap.size ≤ j := fun j e => by cases e; have := HQ.out; omega
  have hld6 := loadRf k63
  obtain ⟨w4, hst4, k44, hg4⟩ := storeR1 (A' := D) (n' := l'.length) (c' := c2) (bad' := bad') k43
  have hb4 := hb3.grown hg4 hb3.size hqw
  have H4 := Lib.hid hb4
  clear hst hg3 hld k2 k4 hb hL23 hL2 hq6 hg4 hb4 hb3 k43 hqw
  go_wp2_with (first
    | (refine wpList_load rfl 102 (.tmp 6) rfl (.pointer (some ⟨q6, 0, none⟩)) rfl hld6 ?_)
    | (guard_target =~ wpList _ _ _ (_ :: _) _ _; refine wpList_build rfl 104 _ rfl #[(0, .agg (rfV D l'.length c2 bad'))] (by simp only [List.map_toArray, List.map_cons, List.map_nil]; rfl) (buildR1 _ _ _ _ _) ?_)
    | (refine wpList_store rfl 104 (.tmp 4) (.tmp 18) rfl (.pointer (some ⟨q + 1, 0, none⟩)) (.agg (rfV D l'.length c2 bad')) rfl rfl hst4 ?_)
    | fail)
  exact bodyPost_ret (results_cell_tmp rfl _ _ (q + 1) 104 (rfV D l'.length c2 bad') (0, 0) _ (.string ⟨x.toArray⟩) rfl rfl k44 Tryz.underlying104 rfl infoR1) rfl (HΦ.out _ _ ⟨H4.out, _, rfl, D, c2, rfl, hcc, hcm2, fun X h => hD X (HD0.out X h)⟩)
end Go.Proofs.YtcajhdmppfiaeaaGreat
