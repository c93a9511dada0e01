/- Walks, msgs: the document's reader: open, payment, rest. -/
import Derived.Test.YtcajhdmppfiaeaaGreatGl15
set_option linter.unusedVariables false
set_option linter.unusedSimpArgs false
namespace Go.Proofs.YtcajhdmppfiaeaaGreat
open Go.RowKit Ms
theorem take1_kind (r : RdS) (f : Fld) : (take1 r f).s.kind = r.s.kind := by
  cases f with
  | num j m =>
    simp only [take1]
    rcases j with _ | _ | _ | _ | _ | _ | _ | _ | _ | _ | _ | _ | j <;> rfl
  | hash j =>
    simp only [take1]
    rcases j with _ | _ | _ | _ | _ | _ | _ | _ | _ | j <;> rfl
  | route => rfl
theorem ra_start {A0 : Option Addr} {l0 : List UInt8} {r : RdS} (hs : r.s.wf) (hl : r.l.length ≤ 9223372036854775000 ∧ r.s.route.length ≤ 9223372036854775000) (w : World) (D0 : Option Addr) (c0 : Nat) (hc : r.l.length ≤ c0) (hcm : c0 ≤ 9223372036854775807) (hD0 : ∀ X, Rd X A0 l0 → Rd X D0 r.l) :
    RA A0 l0 w w.heap.size r ((((w.alloc (.cells (rfV D0 r.l.length c0 r.bad) 104)).alloc (.cells (saidC r.s) 29)).alloc (.cells (rfV none 0 0 false) 104)).alloc (.cells (saidC (Ms.blank 0)) 29)) := by
  have k1 := (((Row.new w 104 (rfV D0 r.l.length c0 r.bad)).alloc (.cells (saidC r.s) 29)).alloc (.cells (rfV none 0 0 false) 104)).alloc (.cells (saidC (Ms.blank 0)) 29)
  have k2 := ((Row.new (w.alloc (.cells (rfV D0 r.l.length c0 r.bad) 104)) 29 (saidC r.s)).alloc (.cells (rfV none 0 0 false) 104)).alloc (.cells (saidC (Ms.blank 0)) 29)
  have k3 := (Row.new ((w.alloc (.cells (rfV D0 r.l.length c0 r.bad) 104)).alloc (.cells (saidC r.s) 29)) 104 (rfV none 0 0 false)).alloc (.cells (saidC (Ms.blank 0)) 29)
  have k4 := Row.new (((w.alloc (.cells (rfV D0 r.l.length c0 r.bad) 104)).alloc (.cells (saidC r.s) 29)).alloc (.cells (rfV none 0 0 false) 104)) 29 (saidC (Ms.blank 0))
  have hb := (((((Later.refl w).alloc (.cells (rfV D0 r.l.length c0 r.bad) 104)).alloc (.cells (saidC r.s) 29)).alloc (.cells (rfV none 0 0 false) 104)).alloc (.cells (saidC (Ms.blank 0)) 29))
  simp only [World.size_alloc] at k2 k3 k4
  exact ⟨hb, Nat.le_refl _, ⟨D0, c0, ⟨hc, hcm, hD0⟩, k1⟩, k2, hs, k3, k4, hl⟩
structure FN (w : World) (g : Nat) (D : Option Addr) (r : RdS) (c m : Nat) (W : World) : Prop where
  low : Below w.heap.size w W
  at_ : w.heap.size ≤ g
  r2 : Row W g 104 (rfV D r.l.length c r.bad)
  sd : Row W (g + 1) 29 (saidC r.s)
  wf : r.s.wf
  r4 : Row W (g + 2) 104 (if m = 0 then rfV none 0 0 false else rfV D r.l.length c r.bad)
  r5 : Row W (g + 3) 29 (saidC (Ms.blank 0))
section
variable {A0 : Option Addr} {l0 : List UInt8} {w W W' : World} {g c m : Nat} {D : Option Addr} {r : RdS}
theorem FN.later (h : FN w g D r c m W) (hL : Later W W') : FN w g D r c m W' := ⟨h.low.trans (hL.below.mono h.low.size), h.at_, h.r2.later hL, h.sd.later hL, h.wf, h.r4.later hL, h.r5.later hL⟩
theorem RA.fin (h : RA A0 l0 w g r W) : ∃ D c, (r.l.length ≤ c ∧ c ≤ 9223372036854775807 ∧ ∀ X, Rd X A0 l0 → Rd X D r.l) ∧ FN w g D r c 0 W := by
  obtain ⟨D, c, hD, kr⟩ := h.rd
  exact ⟨D, c, hD, h.low, h.at_, kr, h.sd, h.wf, h.r4, h.r5⟩
theorem FN.put (h : FN w g D r c 0 W) : ∃ W', (Instr.storeAt 104 (.pointer (some ⟨g + 2, 0, none⟩)) (.agg (rfV D r.l.length c r.bad))).run Tryz.prog W = .ok () W' ∧ FN w g D r c 1 W' := by
  obtain ⟨W', h1, h2, h3⟩ := storeR1 (A' := D) (n' := r.l.length) (c' := c) (bad' := r.bad) h.r4
  have n2 : ∀ k, k ≠ 2 → some (g + k) ≠ some (g + 2) := fun k hk e => by injection e with e; omega
  exact ⟨W', h1, h.low.grown h3 h.low.size (fun j e => by injection e with e; have := h.at_; omega), h.at_, h.r2.grown h3 (n2 0 (by decide)), h.sd.grown h3 (n2 1 (by decide)), h.wf, h2, h.r5.grown h3 (n2 3 (by decide))⟩
theorem FN.put2 (h : FN w g D r c 1 W) : ∃ W', (Instr.storeAt 29 (.pointer (some ⟨g + 3, 0, none⟩)) (.agg (saidC r.s))).run Tryz.prog W = .ok () W' ∧ Later w W' ∧ Row W' (g + 2) 104 (rfV D r.l.length c r.bad) ∧ Row W' (g + 3) 29 (saidC r.s) ∧ (saidC r.s).size = 302 := by
  obtain ⟨W', h1, h2, h3⟩ := storeSaid (blank_wf 0) h.wf h.r5
  exact ⟨W', h1, h.low.grown h3 h.low.size (fun j e => by injection e with e; have := h.at_; omega), h.r4.grown h3 (fun e => by injection e with e; omega), h2, saidC_size h.wf⟩
end
set_option maxRecDepth 100000 in
set_option maxHeartbeats 4000000 in
theorem rd_open1 {A0 : Option Addr} {l0 : List UInt8} {v : Value} {r : RdS} (hv : RefV A0 l0 v r.l r.bad) (hs : r.s.wf) (hk : r.s.kind = 1) (hl : r.l.length ≤ 9223372036854775000 ∧ r.s.route.length ≤ 9223372036854775000) (w : World) (hX : Rd w A0 l0) :
    Calls Tryz.prog 46 #[v, .agg (saidC r.s)] w fun e w' => Later w w' ∧ ∃ v', e = .returned (.tuple #[v', .agg (saidC (taken (flds 1) r).s)]) ∧ RefV A0 l0 v' (taken (flds 1) r).l (taken (flds 1) r).bad := by
  obtain ⟨D0, c0, rfl, hc, hcm, hD0⟩ := hv
  have hbx := boxSaid hs (w.alloc (.cells (rfV D0 r.l.length c0 r.bad) 104))
  have hA := ra_start hs hl w D0 c0 hc hcm hD0
  refine Calls.post fun Φ HΦ => ?_
  go_enter Tryz.func46, Tryz.ntmps46
  go_upto_region 1 with (first
    | (with_reducible refine wpList_alloc rfl 104 rfl (allocR1 _) ?_)
    | (with_reducible refine wpList_alloc rfl 29 rfl (allocSaid _) ?_)
    | fail)
  simp only [World.size_alloc] at hA ⊢
  obtain ⟨g, hg⟩ : ∃ q, q = w.heap.size := ⟨_, rfl⟩
  have HG := Lib.hid hg
  rw [← hg] at hA ⊢
  clear hbx hg
  generalize (((w.alloc (.cells (rfV D0 r.l.length c0 r.bad) 104)).alloc (.cells (saidC r.s) 29)).alloc (.cells (rfV none 0 0 false) 104)).alloc (.cells (saidC (Ms.blank 0)) 29) = W at *
  clear hD0 hc hcm
  obtain ⟨D, c, hld, hcl⟩ := ra_num hA hX 1 1125899906842624 (by decide)
  clear hA
  go_upto_region 2 with (first
    | (guard_target =~ wpList _ _ _ (_ :: _) _ _; refine wpList_load rfl 104 (.tmp 2) rfl (.pointer (some ⟨g, 0, none⟩)) rfl hld ?_)
    | (go_at_call 45; refine hcl.mono ?_; clear hcl; rintro e W1 ⟨v0, x0, rfl, W2, W3, h1, h2, hA⟩)
    | (guard_target =~ wpList _ _ _ (_ :: _) _ _; refine wpList_store rfl 104 (.tmp 2) (.tmp 9) rfl (.pointer (some ⟨g, 0, none⟩)) v0 rfl rfl h1 ?_)
    | (guard_target =~ wpList _ _ _ (_ :: _) _ _; refine wpList_store rfl 2 (.tmp 12) (.tmp 10) rfl (.pointer (some ⟨g + 1, offN 1, none⟩)) x0 rfl rfl h2 ?_)
    | fail)
  clear hld h1 h2
  generalize W3 = W at *
  obtain ⟨D, c, hld, hcl⟩ := ra_num hA hX 2 2147483647 (by decide)
  clear hA
  go_upto_region 3 with (first
    | (guard_target =~ wpList _ _ _ (_ :: _) _ _; refine wpList_load rfl 104 (.tmp 2) rfl (.pointer (some ⟨g, 0, none⟩)) rfl hld ?_)
    | (go_at_call 45; refine hcl.mono ?_; clear hcl; rintro e W1 ⟨v1, x1, rfl, W2, W3, h1, h2, hA⟩)
    | (guard_target =~ wpList _ _ _ (_ :: _) _ _; refine wpList_store rfl 104 (.tmp 2) (.tmp 16) rfl (.pointer (some ⟨g, 0, none⟩)) v1 rfl rfl h1 ?_)
    | (guard_target =~ wpList _ _ _ (_ :: _) _ _; refine wpList_store rfl 2 (.tmp 19) (.tmp 17) rfl (.pointer (some ⟨g + 1, offN 2, none⟩)) x1 rfl rfl h2 ?_)
    | fail)
  clear hld h1 h2
  generalize W3 = W at *
  obtain ⟨D, c, hld, hcl⟩ := ra_num hA hX 3 2147483647 (by decide)
  clear hA
  go_upto_region 4 with (first
    | (guard_target =~ wpList _ _ _ (_ :: _) _ _; refine wpList_load rfl 104 (.tmp 2) rfl (.pointer (some ⟨g, 0, none⟩)) rfl hld ?_)
    | (go_at_call 45; refine hcl.mono ?_; clear hcl; rintro e W1 ⟨v2, x2, rfl, W2, W3, h1, h2, hA⟩)
    | (guard_target =~ wpList _ _ _ (_ :: _) _ _; refine wpList_store rfl 104 (.tmp 2) (.tmp 23) rfl (.pointer (some ⟨g, 0, none⟩)) v2 rfl rfl h1 ?_)
    | (guard_target =~ wpList _ _ _ (_ :: _) _ _; refine wpList_store rfl 2 (.tmp 26) (.tmp 24) rfl (.pointer (some ⟨g + 1, offN 3, none⟩)) x2 rfl rfl h2 ?_)
    | fail)
  clear hld h1 h2
  generalize W3 = W at *
  obtain ⟨D, c, hld, hcl⟩ := ra_num hA hX 4 2147483647 (by decide)
  clear hA
  go_upto_region 5 with (first
    | (guard_target =~ wpList _ _ _ (_ :: _) _ _; refine wpList_load rfl 104 (.tmp 2) rfl (.pointer (some ⟨g, 0, none⟩)) rfl hld ?_)
    | (go_at_call 45; refine hcl.mono ?_; clear hcl; rintro e W1 ⟨v3, x3, rfl, W2, W3, h1, h2, hA⟩)
    | (guard_target =~ wpList _ _ _ (_ :: _) _ _; refine wpList_store rfl 104 (.tmp 2) (.tmp 30) rfl (.pointer (some ⟨g, 0, none⟩)) v3 rfl rfl h1 ?_)
    | (guard_target =~ wpList _ _ _ (_ :: _) _ _; refine wpList_store rfl 2 (.tmp 33) (.tmp 31) rfl (.pointer (some ⟨g + 1, offN 4, none⟩)) x3 rfl rfl h2 ?_)
    | fail)
  clear hld h1 h2
  generalize W3 = W at *
  obtain ⟨D, c, hld, hcl⟩ := ra_hash rdHash_any hA hX 1 (by decide)
  clear hA
  go_upto_region 6 with (first
    | (guard_target =~ wpList _ _ _ (_ :: _) _ _; refine wpList_load rfl 104 (.tmp 2) rfl (.pointer (some ⟨g, 0, none⟩)) rfl hld ?_)
    | (go_at_call 100; refine hcl.mono ?_; clear hcl; rintro e W1 ⟨v4, x4, rfl, W2, W3, h1, h2, hA⟩)
    | (guard_target =~ wpList _ _ _ (_ :: _) _ _; refine wpList_store rfl 104 (.tmp 2) (.tmp 37) rfl (.pointer (some ⟨g, 0, none⟩)) v4 rfl rfl h1 ?_)
    | (guard_target =~ wpList _ _ _ (_ :: _) _ _; refine wpList_store rfl 24 (.tmp 41) (.tmp 38) rfl (.pointer (some ⟨g + 1, offH 1, none⟩)) x4 rfl rfl h2 ?_)
    | fail)
  clear hld h1 h2
  generalize W3 = W at *
  obtain ⟨D, c, hld, hcl⟩ := ra_num hA hX 5 1125899906842624 (by decide)
  clear hA
  go_upto_region 7 with (first
    | (guard_target =~ wpList _ _ _ (_ :: _) _ _; refine wpList_load rfl 104 (.tmp 2) rfl (.pointer (some ⟨g, 0, none⟩)) rfl hld ?_)
    | (go_at_call 45; refine hcl.mono ?_; clear hcl; rintro e W1 ⟨v5, x5, rfl, W2, W3, h1, h2, hA⟩)
    | (guard_target =~ wpList _ _ _ (_ :: _) _ _; refine wpList_store rfl 104 (.tmp 2) (.tmp 45) rfl (.pointer (some ⟨g, 0, none⟩)) v5 rfl rfl h1 ?_)
    | (guard_target =~ wpList _ _ _ (_ :: _) _ _; refine wpList_store rfl 2 (.tmp 47) (.tmp 46) rfl (.pointer (some ⟨g + 1, offN 5, none⟩)) x5 rfl rfl h2 ?_)
    | fail)
  clear hld h1 h2
  generalize W3 = W at *
  obtain ⟨D, c, hld, hcl⟩ := ra_num hA hX 6 1125899906842624 (by decide)
  clear hA
  go_upto_region 8 with (first
    | (guard_target =~ wpList _ _ _ (_ :: _) _ _; refine wpList_load rfl 104 (.tmp 2) rfl (.pointer (some ⟨g, 0, none⟩)) rfl hld ?_)
    | (go_at_call 45; refine hcl.mono ?_; clear hcl; rintro e W1 ⟨v6, x6, rfl, W2, W3, h1, h2, hA⟩)
    | (guard_target =~ wpList _ _ _ (_ :: _) _ _; refine wpList_store rfl 104 (.tmp 2) (.tmp 51) rfl (.pointer (some ⟨g, 0, none⟩)) v6 rfl rfl h1 ?_)
    | (guard_target =~ wpList _ _ _ (_ :: _) _ _; refine wpList_store rfl 2 (.tmp 53) (.tmp 52) rfl (.pointer (some ⟨g + 1, offN 6, none⟩)) x6 rfl rfl h2 ?_)
    | fail)
  clear hld h1 h2
  generalize W3 = W at *
  obtain ⟨D, c, hld, hcl⟩ := ra_hash rdHash_any hA hX 3 (by decide)
  clear hA
  go_upto_region 9 with (first
    | (guard_target =~ wpList _ _ _ (_ :: _) _ _; refine wpList_load rfl 104 (.tmp 2) rfl (.pointer (some ⟨g, 0, none⟩)) rfl hld ?_)
    | (go_at_call 100; refine hcl.mono ?_; clear hcl; rintro e W1 ⟨v7, x7, rfl, W2, W3, h1, h2, hA⟩)
    | (guard_target =~ wpList _ _ _ (_ :: _) _ _; refine wpList_store rfl 104 (.tmp 2) (.tmp 57) rfl (.pointer (some ⟨g, 0, none⟩)) v7 rfl rfl h1 ?_)
    | (guard_target =~ wpList _ _ _ (_ :: _) _ _; refine wpList_store rfl 24 (.tmp 59) (.tmp 58) rfl (.pointer (some ⟨g + 1, offH 3, none⟩)) x7 rfl rfl h2 ?_)
    | fail)
  clear hld h1 h2
  generalize W3 = W at *
  obtain ⟨D, c, hld, hcl⟩ := ra_hash rdHash_any hA hX 4 (by decide)
  clear hA
  go_upto_region 10 with (first
    | (guard_target =~ wpList _ _ _ (_ :: _) _ _; refine wpList_load rfl 104 (.tmp 2) rfl (.pointer (some ⟨g, 0, none⟩)) rfl hld ?_)
    | (go_at_call 100; refine hcl.mono ?_; clear hcl; rintro e W1 ⟨v8, x8, rfl, W2, W3, h1, h2, hA⟩)
    | (guard_target =~ wpList _ _ _ (_ :: _) _ _; refine wpList_store rfl 104 (.tmp 2) (.tmp 63) rfl (.pointer (some ⟨g, 0, none⟩)) v8 rfl rfl h1 ?_)
    | (guard_target =~ wpList _ _ _ (_ :: _) _ _; refine wpList_store rfl 24 (.tmp 65) (.tmp 64) rfl (.pointer (some ⟨g + 1, offH 4, none⟩)) x8 rfl rfl h2 ?_)
    | fail)
  clear hld h1 h2
  generalize W3 = W at *
  obtain ⟨D, c, hD, hF⟩ := hA.fin
  clear hA
  refine (wpIn_wide (n := 0)).1 ?_
  refine wpIn_region_chain wide_wide [.agg (rfV D (taken (flds 1) r).l.length c (taken (flds 1) r).bad), .agg (saidC (taken (flds 1) r).s), undef] [2] (FN w g D (taken (flds 1) r) c) (fun m W W' hL h => h.later hL) hF (by kernel_rfl) (by kernel_rfl) (by kernel_rfl) (by kernel_rfl) (by kernel_rfl) (by kernel_rfl) rfl (by decide) rfl ⟨?_, ?_, ?_, trivial⟩ ?_
  · exact chStep_val rfl (fun ac W m he hA => stepOk_want rfl (op_load rfl (he.keep (.tmp 2) (by kernel_rfl)) (loadR1 hA.r2) rfl))
  · exact chStep_val rfl (fun ac W m he hA => stepOk_want rfl (op_load rfl (he.keep (.tmp 3) (by kernel_rfl)) (loadSaid hA.wf hA.sd) rfl))
  · refine chStep_put (k := 0) rfl (.inl rfl) (fun ac W he hA => ⟨rfl, ?_⟩)
    obtain ⟨W', hr, hA'⟩ := FN.put hA
    exact op_storeK rfl (he.keep (.tmp 4) (by kernel_rfl)) (show ac.eval (.tmp 66) = .agg (rfV D (taken (flds 1) r).l.length c (taken (flds 1) r).bad) from he.val 0 66 (by kernel_rfl) rfl rfl) hr ⟨undef, rfl, hA'⟩
  intro xs W hA hx hkk hgt
  obtain ⟨W', hr, hlow, h4, h5, hz⟩ := FN.put2 hA
  refine last_store rfl rfl (hkk (.tmp 5) (by kernel_rfl)) ((hgt 1 67 (by decide) (by kernel_rfl)).trans (show xs 1 = .agg (saidC (taken (flds 1) r).s) from hx 1 (by decide) rfl)) hr ?_
  clear hx hkk hgt hA hF hr
  simp only [initL, lastL, putL, Nat.reduceAdd, Act.put, List.setIfInBounds_toArray, List.set_cons_succ, List.set_cons_zero]
  go_wp2_with fail
  exact bodyPost_ret (results_cc rfl _ _ (g + 2) (g + 3) 104 _ _ _ rfl rfl h4 Tryz.underlying104 rfl infoR1 (run_loadVar_row _ _ _ _ _ (0, 0) _ h5 Tryz.underlying29 rfl (by rw [hz]; exact infoSaid))) rfl (HΦ.out _ _ ⟨hlow, _, rfl, D, c, rfl, hD⟩)
set_option maxRecDepth 100000 in
set_option maxHeartbeats 4000000 in
theorem rd_payment6 {A0 : Option Addr} {l0 : List UInt8} {v : Value} {r : RdS} (hv : RefV A0 l0 v r.l r.bad) (hs : r.s.wf) (hk : r.s.kind = 6) (hl : r.l.length ≤ 9223372036854775000 ∧ r.s.route.length ≤ 9223372036854775000) (w : World) (hX : Rd w A0 l0) :
    Calls Tryz.prog 47 #[v, .agg (saidC r.s)] w fun e w' => Later w w' ∧ ∃ v', e = .returned (.tuple #[v', .agg (saidC (taken (flds 6) r).s)]) ∧ RefV A0 l0 v' (taken (flds 6) r).l (taken (flds 6) r).bad := by
  obtain ⟨D0, c0, rfl, hc, hcm, hD0⟩ := hv
  have hbx := boxSaid hs (w.alloc (.cells (rfV D0 r.l.length c0 r.bad) 104))
  have hA := ra_start hs hl w D0 c0 hc hcm hD0
  refine Calls.post fun Φ HΦ => ?_
  go_enter Tryz.func47, Tryz.ntmps47
  go_upto_region 1 with (first
    | (with_reducible refine wpList_alloc rfl 104 rfl (allocR1 _) ?_)
    | (with_reducible refine wpList_alloc rfl 29 rfl (allocSaid _) ?_)
    | fail)
  simp only [World.size_alloc] at hA ⊢
  obtain ⟨g, hg⟩ : ∃ q, q = w.heap.size := ⟨_, rfl⟩
  have HG := Lib.hid hg
  rw [← hg] at hA ⊢
  clear hbx hg
  generalize (((w.alloc (.cells (rfV D0 r.l.length c0 r.bad) 104)).alloc (.cells (saidC r.s) 29)).alloc (.cells (rfV none 0 0 false) 104)).alloc (.cells (saidC (Ms.blank 0)) 29) = W at *
  clear hD0 hc hcm
  obtain ⟨D, c, hld, hcl⟩ := ra_num hA hX 7 2147483647 (by decide)
  clear hA
  go_upto_region 2 with (first
    | (guard_target =~ wpList _ _ _ (_ :: _) _ _; refine wpList_load rfl 104 (.tmp 2) rfl (.pointer (some ⟨g, 0, none⟩)) rfl hld ?_)
    | (go_at_call 45; refine hcl.mono ?_; clear hcl; rintro e W1 ⟨v0, x0, rfl, W2, W3, h1, h2, hA⟩)
    | (guard_target =~ wpList _ _ _ (_ :: _) _ _; refine wpList_store rfl 104 (.tmp 2) (.tmp 9) rfl (.pointer (some ⟨g, 0, none⟩)) v0 rfl rfl h1 ?_)
    | (guard_target =~ wpList _ _ _ (_ :: _) _ _; refine wpList_store rfl 2 (.tmp 11) (.tmp 10) rfl (.pointer (some ⟨g + 1, offN 7, none⟩)) x0 rfl rfl h2 ?_)
    | fail)
  clear hld h1 h2
  generalize W3 = W at *
  have c00 : W.cell? ⟨g + 1, 0, none⟩ = some (.int .i64 6) := (hA.sd.cell 0).trans ((saidC_kind hA.wf).trans (by simp only [take1_kind, hk]))
  go_upto_region 5 with fail
  clear c00
  obtain ⟨D, c, hld, hcl⟩ := ra_num hA hX 6 1125899906842624 (by decide)
  clear hA
  go_upto_region 6 with (first
    | (guard_target =~ wpList _ _ _ (_ :: _) _ _; refine wpList_load rfl 104 (.tmp 2) rfl (.pointer (some ⟨g, 0, none⟩)) rfl hld ?_)
    | (go_at_call 45; refine hcl.mono ?_; clear hcl; rintro e W1 ⟨v1, x1, rfl, W2, W3, h1, h2, hA⟩)
    | (guard_target =~ wpList _ _ _ (_ :: _) _ _; refine wpList_store rfl 104 (.tmp 2) (.tmp 25) rfl (.pointer (some ⟨g, 0, none⟩)) v1 rfl rfl h1 ?_)
    | (guard_target =~ wpList _ _ _ (_ :: _) _ _; refine wpList_store rfl 2 (.tmp 27) (.tmp 26) rfl (.pointer (some ⟨g + 1, offN 6, none⟩)) x1 rfl rfl h2 ?_)
    | fail)
  clear hld h1 h2
  generalize W3 = W at *
  obtain ⟨D, c, hld, hcl⟩ := ra_hash rdHash_any hA hX 6 (by decide)
  clear hA
  go_upto_region 7 with (first
    | (guard_target =~ wpList _ _ _ (_ :: _) _ _; refine wpList_load rfl 104 (.tmp 2) rfl (.pointer (some ⟨g, 0, none⟩)) rfl hld ?_)
    | (go_at_call 100; refine hcl.mono ?_; clear hcl; rintro e W1 ⟨v2, x2, rfl, W2, W3, h1, h2, hA⟩)
    | (guard_target =~ wpList _ _ _ (_ :: _) _ _; refine wpList_store rfl 104 (.tmp 2) (.tmp 31) rfl (.pointer (some ⟨g, 0, none⟩)) v2 rfl rfl h1 ?_)
    | (guard_target =~ wpList _ _ _ (_ :: _) _ _; refine wpList_store rfl 24 (.tmp 33) (.tmp 32) rfl (.pointer (some ⟨g + 1, offH 6, none⟩)) x2 rfl rfl h2 ?_)
    | fail)
  clear hld h1 h2
  generalize W3 = W at *
  obtain ⟨D, c, hld, hcl⟩ := ra_num hA hX 10 2147483647 (by decide)
  clear hA
  go_upto_region 8 with (first
    | (guard_target =~ wpList _ _ _ (_ :: _) _ _; refine wpList_load rfl 104 (.tmp 2) rfl (.pointer (some ⟨g, 0, none⟩)) rfl hld ?_)
    | (go_at_call 45; refine hcl.mono ?_; clear hcl; rintro e W1 ⟨v3, x3, rfl, W2, W3, h1, h2, hA⟩)
    | (guard_target =~ wpList _ _ _ (_ :: _) _ _; refine wpList_store rfl 104 (.tmp 2) (.tmp 37) rfl (.pointer (some ⟨g, 0, none⟩)) v3 rfl rfl h1 ?_)
    | (guard_target =~ wpList _ _ _ (_ :: _) _ _; refine wpList_store rfl 2 (.tmp 39) (.tmp 38) rfl (.pointer (some ⟨g + 1, offN 10, none⟩)) x3 rfl rfl h2 ?_)
    | fail)
  clear hld h1 h2
  generalize W3 = W at *
  obtain ⟨D, c, hld, hcl⟩ := ra_text hA hX
  clear hA
  go_upto_region 11 with (first
    | (guard_target =~ wpList _ _ _ (_ :: _) _ _; refine wpList_load rfl 104 (.tmp 2) rfl (.pointer (some ⟨g, 0, none⟩)) rfl hld ?_)
    | (go_at_call 101; refine hcl.mono ?_; clear hcl; rintro e W1 ⟨v4, x4, rfl, W2, W3, h1, h2, hA⟩)
    | (guard_target =~ wpList _ _ _ (_ :: _) _ _; refine wpList_store rfl 104 (.tmp 2) (.tmp 43) rfl (.pointer (some ⟨g, 0, none⟩)) v4 rfl rfl h1 ?_)
    | (guard_target =~ wpList _ _ _ (_ :: _) _ _; refine wpList_store rfl 9 (.tmp 45) (.tmp 44) rfl (.pointer (some ⟨g + 1, 301, none⟩)) x4 rfl rfl h2 ?_)
    | fail)
  clear hld h1 h2
  generalize W3 = W at *
  obtain ⟨D, c, hD, hF⟩ := hA.fin
  clear hA
  refine (wpIn_wide (n := 0)).1 ?_
  refine wpIn_region_chain wide_wide [.agg (rfV D (taken (flds 6) r).l.length c (taken (flds 6) r).bad), .agg (saidC (taken (flds 6) r).s), undef] [2] (FN w g D (taken (flds 6) r) c) (fun m W W' hL h => h.later hL) hF (by kernel_rfl) (by kernel_rfl) (by kernel_rfl) (by kernel_rfl) (by kernel_rfl) (by kernel_rfl) rfl (by decide) rfl ⟨?_, ?_, ?_, trivial⟩ ?_
  · exact chStep_val rfl (fun ac W m he hA => stepOk_want rfl (op_load rfl (he.keep (.tmp 2) (by kernel_rfl)) (loadR1 hA.r2) rfl))
  · exact chStep_val rfl (fun ac W m he hA => stepOk_want rfl (op_load rfl (he.keep (.tmp 3) (by kernel_rfl)) (loadSaid hA.wf hA.sd) rfl))
  · refine chStep_put (k := 0) rfl (.inl rfl) (fun ac W he hA => ⟨rfl, ?_⟩)
    obtain ⟨W', hr, hA'⟩ := FN.put hA
    exact op_storeK rfl (he.keep (.tmp 4) (by kernel_rfl)) (show ac.eval (.tmp 54) = .agg (rfV D (taken (flds 6) r).l.length c (taken (flds 6) r).bad) from he.val 0 54 (by kernel_rfl) rfl rfl) hr ⟨undef, rfl, hA'⟩
  intro xs W hA hx hkk hgt
  obtain ⟨W', hr, hlow, h4, h5, hz⟩ := FN.put2 hA
  refine last_store rfl rfl (hkk (.tmp 5) (by kernel_rfl)) ((hgt 1 55 (by decide) (by kernel_rfl)).trans (show xs 1 = .agg (saidC (taken (flds 6) r).s) from hx 1 (by decide) rfl)) hr ?_
  clear hx hkk hgt hA hF hr
  simp only [initL, lastL, putL, Nat.reduceAdd, Act.put, List.setIfInBounds_toArray, List.set_cons_succ, List.set_cons_zero]
  go_wp2_with fail
  exact bodyPost_ret (results_cc rfl _ _ (g + 2) (g + 3) 104 _ _ _ rfl rfl h4 Tryz.underlying104 rfl infoR1 (run_loadVar_row _ _ _ _ _ (0, 0) _ h5 Tryz.underlying29 rfl (by rw [hz]; exact infoSaid))) rfl (HΦ.out _ _ ⟨hlow, _, rfl, D, c, rfl, hD⟩)
set_option maxRecDepth 100000 in
set_option maxHeartbeats 4000000 in
theorem rd_payment7 {A0 : Option Addr} {l0 : List UInt8} {v : Value} {r : RdS} (hv : RefV A0 l0 v r.l r.bad) (hs : r.s.wf) (hk : r.s.kind = 7) (hl : r.l.length ≤ 9223372036854775000 ∧ r.s.route.length ≤ 9223372036854775000) (w : World) (hX : Rd w A0 l0) :
    Calls Tryz.prog 47 #[v, .agg (saidC r.s)] w fun e w' => Later w w' ∧ ∃ v', e = .returned (.tuple #[v', .agg (saidC (taken (flds 7) r).s)]) ∧ RefV A0 l0 v' (taken (flds 7) r).l (taken (flds 7) r).bad := by
  obtain ⟨D0, c0, rfl, hc, hcm, hD0⟩ := hv
  have hbx := boxSaid hs (w.alloc (.cells (rfV D0 r.l.length c0 r.bad) 104))
  have hA := ra_start hs hl w D0 c0 hc hcm hD0
  refine Calls.post fun Φ HΦ => ?_
  go_enter Tryz.func47, Tryz.ntmps47
  go_upto_region 1 with (first
    | (with_reducible refine wpList_alloc rfl 104 rfl (allocR1 _) ?_)
    | (with_reducible refine wpList_alloc rfl 29 rfl (allocSaid _) ?_)
    | fail)
  simp only [World.size_alloc] at hA ⊢
  obtain ⟨g, hg⟩ : ∃ q, q = w.heap.size := ⟨_, rfl⟩
  have HG := Lib.hid hg
  rw [← hg] at hA ⊢
  clear hbx hg
  generalize (((w.alloc (.cells (rfV D0 r.l.length c0 r.bad) 104)).alloc (.cells (saidC r.s) 29)).alloc (.cells (rfV none 0 0 false) 104)).alloc (.cells (saidC (Ms.blank 0)) 29) = W at *
  clear hD0 hc hcm
  obtain ⟨D, c, hld, hcl⟩ := ra_num hA hX 7 2147483647 (by decide)
  clear hA
  go_upto_region 2 with (first
    | (guard_target =~ wpList _ _ _ (_ :: _) _ _; refine wpList_load rfl 104 (.tmp 2) rfl (.pointer (some ⟨g, 0, none⟩)) rfl hld ?_)
    | (go_at_call 45; refine hcl.mono ?_; clear hcl; rintro e W1 ⟨v0, x0, rfl, W2, W3, h1, h2, hA⟩)
    | (guard_target =~ wpList _ _ _ (_ :: _) _ _; refine wpList_store rfl 104 (.tmp 2) (.tmp 9) rfl (.pointer (some ⟨g, 0, none⟩)) v0 rfl rfl h1 ?_)
    | (guard_target =~ wpList _ _ _ (_ :: _) _ _; refine wpList_store rfl 2 (.tmp 11) (.tmp 10) rfl (.pointer (some ⟨g + 1, offN 7, none⟩)) x0 rfl rfl h2 ?_)
    | fail)
  clear hld h1 h2
  generalize W3 = W at *
  have c00 : W.cell? ⟨g + 1, 0, none⟩ = some (.int .i64 7) := (hA.sd.cell 0).trans ((saidC_kind hA.wf).trans (by simp only [take1_kind, hk]))
  go_upto_region 10 with fail
  clear c00
  obtain ⟨D, c, hld, hcl⟩ := ra_hash rdHash_any hA hX 8 (by decide)
  clear hA
  go_upto_region 11 with (first
    | (guard_target =~ wpList _ _ _ (_ :: _) _ _; refine wpList_load rfl 104 (.tmp 2) rfl (.pointer (some ⟨g, 0, none⟩)) rfl hld ?_)
    | (go_at_call 100; refine hcl.mono ?_; clear hcl; rintro e W1 ⟨v1, x1, rfl, W2, W3, h1, h2, hA⟩)
    | (guard_target =~ wpList _ _ _ (_ :: _) _ _; refine wpList_store rfl 104 (.tmp 2) (.tmp 51) rfl (.pointer (some ⟨g, 0, none⟩)) v1 rfl rfl h1 ?_)
    | (guard_target =~ wpList _ _ _ (_ :: _) _ _; refine wpList_store rfl 24 (.tmp 53) (.tmp 52) rfl (.pointer (some ⟨g + 1, offH 8, none⟩)) x1 rfl rfl h2 ?_)
    | fail)
  clear hld h1 h2
  generalize W3 = W at *
  obtain ⟨D, c, hD, hF⟩ := hA.fin
  clear hA
  refine (wpIn_wide (n := 0)).1 ?_
  refine wpIn_region_chain wide_wide [.agg (rfV D (taken (flds 7) r).l.length c (taken (flds 7) r).bad), .agg (saidC (taken (flds 7) r).s), undef] [2] (FN w g D (taken (flds 7) r) c) (fun m W W' hL h => h.later hL) hF (by kernel_rfl) (by kernel_rfl) (by kernel_rfl) (by kernel_rfl) (by kernel_rfl) (by kernel_rfl) rfl (by decide) rfl ⟨?_, ?_, ?_, trivial⟩ ?_
  · exact chStep_val rfl (fun ac W m he hA => stepOk_want rfl (op_load rfl (he.keep (.tmp 2) (by kernel_rfl)) (loadR1 hA.r2) rfl))
  · exact chStep_val rfl (fun ac W m he hA => stepOk_want rfl (op_load rfl (he.keep (.tmp 3) (by kernel_rfl)) (loadSaid hA.wf hA.sd) rfl))
  · refine chStep_put (k := 0) rfl (.inl rfl) (fun ac W he hA => ⟨rfl, ?_⟩)
    obtain ⟨W', hr, hA'⟩ := FN.put hA
    exact op_storeK rfl (he.keep (.tmp 4) (by kernel_rfl)) (show ac.eval (.tmp 54) = .agg (rfV D (taken (flds 7) r).l.length c (taken (flds 7) r).bad) from he.val 0 54 (by kernel_rfl) rfl rfl) hr ⟨undef, rfl, hA'⟩
  intro xs W hA hx hkk hgt
  obtain ⟨W', hr, hlow, h4, h5, hz⟩ := FN.put2 hA
  refine last_store rfl rfl (hkk (.tmp 5) (by kernel_rfl)) ((hgt 1 55 (by decide) (by kernel_rfl)).trans (show xs 1 = .agg (saidC (taken (flds 7) r).s) from hx 1 (by decide) rfl)) hr ?_
  clear hx hkk hgt hA hF hr
  simp only [initL, lastL, putL, Nat.reduceAdd, Act.put, List.setIfInBounds_toArray, List.set_cons_succ, List.set_cons_zero]
  go_wp2_with fail
  exact bodyPost_ret (results_cc rfl _ _ (g + 2) (g + 3) 104 _ _ _ rfl rfl h4 Tryz.underlying104 rfl infoR1 (run_loadVar_row _ _ _ _ _ (0, 0) _ h5 Tryz.underlying29 rfl (by rw [hz]; exact infoSaid))) rfl (HΦ.out _ _ ⟨hlow, _, rfl, D, c, rfl, hD⟩)
set_option maxRecDepth 100000 in
set_option maxHeartbeats 4000000 in
theorem rd_payment8 {A0 : Option Addr} {l0 : List UInt8} {v : Value} {r : RdS} (hv : RefV A0 l0 v r.l r.bad) (hs : r.s.wf) (hk : r.s.kind = 8) (hl : r.l.length ≤ 9223372036854775000 ∧ r.s.route.length ≤ 9223372036854775000) (w : World) (hX : Rd w A0 l0) :
    Calls Tryz.prog 47 #[v, .agg (saidC r.s)] w fun e w' => Later w w' ∧ ∃ v', e = .returned (.tuple #[v', .agg (saidC (taken (flds 8) r).s)]) ∧ RefV A0 l0 v' (taken (flds 8) r).l (taken (flds 8) r).bad := by
  obtain ⟨D0, c0, rfl, hc, hcm, hD0⟩ := hv
  have hbx := boxSaid hs (w.alloc (.cells (rfV D0 r.l.length c0 r.bad) 104))
  have hA := ra_start hs hl w D0 c0 hc hcm hD0
  refine Calls.post fun Φ HΦ => ?_
  go_enter Tryz.func47, Tryz.ntmps47
  go_upto_region 1 with (first
    | (with_reducible refine wpList_alloc rfl 104 rfl (allocR1 _) ?_)
    | (with_reducible refine wpList_alloc rfl 29 rfl (allocSaid _) ?_)
    | fail)
  simp only [World.size_alloc] at hA ⊢
  obtain ⟨g, hg⟩ : ∃ q, q = w.heap.size := ⟨_, rfl⟩
  have HG := Lib.hid hg
  rw [← hg] at hA ⊢
  clear hbx hg
  generalize (((w.alloc (.cells (rfV D0 r.l.length c0 r.bad) 104)).alloc (.cells (saidC r.s) 29)).alloc (.cells (rfV none 0 0 false) 104)).alloc (.cells (saidC (Ms.blank 0)) 29) = W at *
  clear hD0 hc hcm
  obtain ⟨D, c, hld, hcl⟩ := ra_num hA hX 7 2147483647 (by decide)
  clear hA
  go_upto_region 2 with (first
    | (guard_target =~ wpList _ _ _ (_ :: _) _ _; refine wpList_load rfl 104 (.tmp 2) rfl (.pointer (some ⟨g, 0, none⟩)) rfl hld ?_)
    | (go_at_call 45; refine hcl.mono ?_; clear hcl; rintro e W1 ⟨v0, x0, rfl, W2, W3, h1, h2, hA⟩)
    | (guard_target =~ wpList _ _ _ (_ :: _) _ _; refine wpList_store rfl 104 (.tmp 2) (.tmp 9) rfl (.pointer (some ⟨g, 0, none⟩)) v0 rfl rfl h1 ?_)
    | (guard_target =~ wpList _ _ _ (_ :: _) _ _; refine wpList_store rfl 2 (.tmp 11) (.tmp 10) rfl (.pointer (some ⟨g + 1, offN 7, none⟩)) x0 rfl rfl h2 ?_)
    | fail)
  clear hld h1 h2
  generalize W3 = W at *
  have c00 : W.cell? ⟨g + 1, 0, none⟩ = some (.int .i64 8) := (hA.sd.cell 0).trans ((saidC_kind hA.wf).trans (by simp only [take1_kind, hk]))
  go_upto_region 3 with fail
  clear c00
  obtain ⟨D, c, hld, hcl⟩ := ra_num hA hX 11 2147483647 (by decide)
  clear hA
  go_upto_region 11 with (first
    | (guard_target =~ wpList _ _ _ (_ :: _) _ _; refine wpList_load rfl 104 (.tmp 2) rfl (.pointer (some ⟨g, 0, none⟩)) rfl hld ?_)
    | (go_at_call 45; refine hcl.mono ?_; clear hcl; rintro e W1 ⟨v1, x1, rfl, W2, W3, h1, h2, hA⟩)
    | (guard_target =~ wpList _ _ _ (_ :: _) _ _; refine wpList_store rfl 104 (.tmp 2) (.tmp 17) rfl (.pointer (some ⟨g, 0, none⟩)) v1 rfl rfl h1 ?_)
    | (guard_target =~ wpList _ _ _ (_ :: _) _ _; refine wpList_store rfl 2 (.tmp 19) (.tmp 18) rfl (.pointer (some ⟨g + 1, offN 11, none⟩)) x1 rfl rfl h2 ?_)
    | fail)
  clear hld h1 h2
  generalize W3 = W at *
  obtain ⟨D, c, hD, hF⟩ := hA.fin
  clear hA
  refine (wpIn_wide (n := 0)).1 ?_
  refine wpIn_region_chain wide_wide [.agg (rfV D (taken (flds 8) r).l.length c (taken (flds 8) r).bad), .agg (saidC (taken (flds 8) r).s), undef] [2] (FN w g D (taken (flds 8) r) c) (fun m W W' hL h => h.later hL) hF (by kernel_rfl) (by kernel_rfl) (by kernel_rfl) (by kernel_rfl) (by kernel_rfl) (by kernel_rfl) rfl (by decide) rfl ⟨?_, ?_, ?_, trivial⟩ ?_
  · exact chStep_val rfl (fun ac W m he hA => stepOk_want rfl (op_load rfl (he.keep (.tmp 2) (by kernel_rfl)) (loadR1 hA.r2) rfl))
  · exact chStep_val rfl (fun ac W m he hA => stepOk_want rfl (op_load rfl (he.keep (.tmp 3) (by kernel_rfl)) (loadSaid hA.wf hA.sd) rfl))
  · refine chStep_put (k := 0) rfl (.inl rfl) (fun ac W he hA => ⟨rfl, ?_⟩)
    obtain ⟨W', hr, hA'⟩ := FN.put hA
    exact op_storeK rfl (he.keep (.tmp 4) (by kernel_rfl)) (show ac.eval (.tmp 54) = .agg (rfV D (taken (flds 8) r).l.length c (taken (flds 8) r).bad) from he.val 0 54 (by kernel_rfl) rfl rfl) hr ⟨undef, rfl, hA'⟩
  intro xs W hA hx hkk hgt
  obtain ⟨W', hr, hlow, h4, h5, hz⟩ := FN.put2 hA
  refine last_store rfl rfl (hkk (.tmp 5) (by kernel_rfl)) ((hgt 1 55 (by decide) (by kernel_rfl)).trans (show xs 1 = .agg (saidC (taken (flds 8) r).s) from hx 1 (by decide) rfl)) hr ?_
  clear hx hkk hgt hA hF hr
  simp only [initL, lastL, putL, Nat.reduceAdd, Act.put, List.setIfInBounds_toArray, List.set_cons_succ, List.set_cons_zero]
  go_wp2_with fail
  exact bodyPost_ret (results_cc rfl _ _ (g + 2) (g + 3) 104 _ _ _ rfl rfl h4 Tryz.underlying104 rfl infoR1 (run_loadVar_row _ _ _ _ _ (0, 0) _ h5 Tryz.underlying29 rfl (by rw [hz]; exact infoSaid))) rfl (HΦ.out _ _ ⟨hlow, _, rfl, D, c, rfl, hD⟩)
set_option maxRecDepth 100000 in
set_option maxHeartbeats 4000000 in
theorem rd_rest2 {A0 : Option Addr} {l0 : List UInt8} {v : Value} {r : RdS} (hv : RefV A0 l0 v r.l r.bad) (hs : r.s.wf) (hk : r.s.kind = 2) (hl : r.l.length ≤ 9223372036854775000 ∧ r.s.route.length ≤ 9223372036854775000) (w : World) (hX : Rd w A0 l0) :
    Calls Tryz.prog 48 #[v, .agg (saidC r.s)] w fun e w' => Later w w' ∧ ∃ v', e = .returned (.tuple #[v', .agg (saidC (taken (flds 2) r).s)]) ∧ RefV A0 l0 v' (taken (flds 2) r).l (taken (flds 2) r).bad := by
  obtain ⟨D0, c0, rfl, hc, hcm, hD0⟩ := hv
  have hbx := boxSaid hs (w.alloc (.cells (rfV D0 r.l.length c0 r.bad) 104))
  have hA := ra_start hs hl w D0 c0 hc hcm hD0
  refine Calls.post fun Φ HΦ => ?_
  go_enter Tryz.func48, Tryz.ntmps48
  go_upto_region 1 with (first
    | (with_reducible refine wpList_alloc rfl 104 rfl (allocR1 _) ?_)
    | (with_reducible refine wpList_alloc rfl 29 rfl (allocSaid _) ?_)
    | fail)
  simp only [World.size_alloc] at hA ⊢
  obtain ⟨g, hg⟩ : ∃ q, q = w.heap.size := ⟨_, rfl⟩
  have HG := Lib.hid hg
  rw [← hg] at hA ⊢
  clear hbx hg
  generalize (((w.alloc (.cells (rfV D0 r.l.length c0 r.bad) 104)).alloc (.cells (saidC r.s) 29)).alloc (.cells (rfV none 0 0 false) 104)).alloc (.cells (saidC (Ms.blank 0)) 29) = W at *
  clear hD0 hc hcm
  have c00 : W.cell? ⟨g + 1, 0, none⟩ = some (.int .i64 2) := (hA.sd.cell 0).trans ((saidC_kind hA.wf).trans (by simp only [take1_kind, hk]))
  go_upto_region 3 with fail
  clear c00
  obtain ⟨D, c, hld, hcl⟩ := ra_hash rdHash_any hA hX 5 (by decide)
  clear hA
  go_upto_region 4 with (first
    | (guard_target =~ wpList _ _ _ (_ :: _) _ _; refine wpList_load rfl 104 (.tmp 2) rfl (.pointer (some ⟨g, 0, none⟩)) rfl hld ?_)
    | (go_at_call 100; refine hcl.mono ?_; clear hcl; rintro e W1 ⟨v0, x0, rfl, W2, W3, h1, h2, hA⟩)
    | (guard_target =~ wpList _ _ _ (_ :: _) _ _; refine wpList_store rfl 104 (.tmp 2) (.tmp 13) rfl (.pointer (some ⟨g, 0, none⟩)) v0 rfl rfl h1 ?_)
    | (guard_target =~ wpList _ _ _ (_ :: _) _ _; refine wpList_store rfl 24 (.tmp 15) (.tmp 14) rfl (.pointer (some ⟨g + 1, offH 5, none⟩)) x0 rfl rfl h2 ?_)
    | fail)
  clear hld h1 h2
  generalize W3 = W at *
  obtain ⟨D, c, hld, hcl⟩ := ra_hash rdHash_any hA hX 3 (by decide)
  clear hA
  go_upto_region 5 with (first
    | (guard_target =~ wpList _ _ _ (_ :: _) _ _; refine wpList_load rfl 104 (.tmp 2) rfl (.pointer (some ⟨g, 0, none⟩)) rfl hld ?_)
    | (go_at_call 100; refine hcl.mono ?_; clear hcl; rintro e W1 ⟨v1, x1, rfl, W2, W3, h1, h2, hA⟩)
    | (guard_target =~ wpList _ _ _ (_ :: _) _ _; refine wpList_store rfl 104 (.tmp 2) (.tmp 19) rfl (.pointer (some ⟨g, 0, none⟩)) v1 rfl rfl h1 ?_)
    | (guard_target =~ wpList _ _ _ (_ :: _) _ _; refine wpList_store rfl 24 (.tmp 21) (.tmp 20) rfl (.pointer (some ⟨g + 1, offH 3, none⟩)) x1 rfl rfl h2 ?_)
    | fail)
  clear hld h1 h2
  generalize W3 = W at *
  obtain ⟨D, c, hld, hcl⟩ := ra_hash rdHash_any hA hX 4 (by decide)
  clear hA
  go_upto_region 27 with (first
    | (guard_target =~ wpList _ _ _ (_ :: _) _ _; refine wpList_load rfl 104 (.tmp 2) rfl (.pointer (some ⟨g, 0, none⟩)) rfl hld ?_)
    | (go_at_call 100; refine hcl.mono ?_; clear hcl; rintro e W1 ⟨v2, x2, rfl, W2, W3, h1, h2, hA⟩)
    | (guard_target =~ wpList _ _ _ (_ :: _) _ _; refine wpList_store rfl 104 (.tmp 2) (.tmp 25) rfl (.pointer (some ⟨g, 0, none⟩)) v2 rfl rfl h1 ?_)
    | (guard_target =~ wpList _ _ _ (_ :: _) _ _; refine wpList_store rfl 24 (.tmp 27) (.tmp 26) rfl (.pointer (some ⟨g + 1, offH 4, none⟩)) x2 rfl rfl h2 ?_)
    | fail)
  clear hld h1 h2
  generalize W3 = W at *
  obtain ⟨D, c, hD, hF⟩ := hA.fin
  clear hA
  refine (wpIn_wide (n := 0)).1 ?_
  refine wpIn_region_chain wide_wide [.agg (rfV D (taken (flds 2) r).l.length c (taken (flds 2) r).bad), .agg (saidC (taken (flds 2) r).s), undef] [2] (FN w g D (taken (flds 2) r) c) (fun m W W' hL h => h.later hL) hF (by kernel_rfl) (by kernel_rfl) (by kernel_rfl) (by kernel_rfl) (by kernel_rfl) (by kernel_rfl) rfl (by decide) rfl ⟨?_, ?_, ?_, trivial⟩ ?_
  · exact chStep_val rfl (fun ac W m he hA => stepOk_want rfl (op_load rfl (he.keep (.tmp 2) (by kernel_rfl)) (loadR1 hA.r2) rfl))
  · exact chStep_val rfl (fun ac W m he hA => stepOk_want rfl (op_load rfl (he.keep (.tmp 3) (by kernel_rfl)) (loadSaid hA.wf hA.sd) rfl))
  · refine chStep_put (k := 0) rfl (.inl rfl) (fun ac W he hA => ⟨rfl, ?_⟩)
    obtain ⟨W', hr, hA'⟩ := FN.put hA
    exact op_storeK rfl (he.keep (.tmp 4) (by kernel_rfl)) (show ac.eval (.tmp 126) = .agg (rfV D (taken (flds 2) r).l.length c (taken (flds 2) r).bad) from he.val 0 126 (by kernel_rfl) rfl rfl) hr ⟨undef, rfl, hA'⟩
  intro xs W hA hx hkk hgt
  obtain ⟨W', hr, hlow, h4, h5, hz⟩ := FN.put2 hA
  refine last_store rfl rfl (hkk (.tmp 5) (by kernel_rfl)) ((hgt 1 127 (by decide) (by kernel_rfl)).trans (show xs 1 = .agg (saidC (taken (flds 2) r).s) from hx 1 (by decide) rfl)) hr ?_
  clear hx hkk hgt hA hF hr
  simp only [initL, lastL, putL, Nat.reduceAdd, Act.put, List.setIfInBounds_toArray, List.set_cons_succ, List.set_cons_zero]
  go_wp2_with fail
  exact bodyPost_ret (results_cc rfl _ _ (g + 2) (g + 3) 104 _ _ _ rfl rfl h4 Tryz.underlying104 rfl infoR1 (run_loadVar_row _ _ _ _ _ (0, 0) _ h5 Tryz.underlying29 rfl (by rw [hz]; exact infoSaid))) rfl (HΦ.out _ _ ⟨hlow, _, rfl, D, c, rfl, hD⟩)
set_option maxRecDepth 100000 in
set_option maxHeartbeats 4000000 in
theorem rd_rest3 {A0 : Option Addr} {l0 : List UInt8} {v : Value} {r : RdS} (hv : RefV A0 l0 v r.l r.bad) (hs : r.s.wf) (hk : r.s.kind = 3) (hl : r.l.length ≤ 9223372036854775000 ∧ r.s.route.length ≤ 9223372036854775000) (w : World) (hX : Rd w A0 l0) :
    Calls Tryz.prog 48 #[v, .agg (saidC r.s)] w fun e w' => Later w w' ∧ ∃ v', e = .returned (.tuple #[v', .agg (saidC (taken (flds 3) r).s)]) ∧ RefV A0 l0 v' (taken (flds 3) r).l (taken (flds 3) r).bad := by
  obtain ⟨D0, c0, rfl, hc, hcm, hD0⟩ := hv
  have hbx := boxSaid hs (w.alloc (.cells (rfV D0 r.l.length c0 r.bad) 104))
  have hA := ra_start hs hl w D0 c0 hc hcm hD0
  refine Calls.post fun Φ HΦ => ?_
  go_enter Tryz.func48, Tryz.ntmps48
  go_upto_region 1 with (first
    | (with_reducible refine wpList_alloc rfl 104 rfl (allocR1 _) ?_)
    | (with_reducible refine wpList_alloc rfl 29 rfl (allocSaid _) ?_)
    | fail)
  simp only [World.size_alloc] at hA ⊢
  obtain ⟨g, hg⟩ : ∃ q, q = w.heap.size := ⟨_, rfl⟩
  have HG := Lib.hid hg
  rw [← hg] at hA ⊢
  clear hbx hg
  generalize (((w.alloc (.cells (rfV D0 r.l.length c0 r.bad) 104)).alloc (.cells (saidC r.s) 29)).alloc (.cells (rfV none 0 0 false) 104)).alloc (.cells (saidC (Ms.blank 0)) 29) = W at *
  clear hD0 hc hcm
  have c00 : W.cell? ⟨g + 1, 0, none⟩ = some (.int .i64 3) := (hA.sd.cell 0).trans ((saidC_kind hA.wf).trans (by simp only [take1_kind, hk]))
  go_upto_region 7 with fail
  clear c00
  obtain ⟨D, c, hld, hcl⟩ := ra_hash rdHash_any hA hX 6 (by decide)
  clear hA
  go_upto_region 8 with (first
    | (guard_target =~ wpList _ _ _ (_ :: _) _ _; refine wpList_load rfl 104 (.tmp 2) rfl (.pointer (some ⟨g, 0, none⟩)) rfl hld ?_)
    | (go_at_call 100; refine hcl.mono ?_; clear hcl; rintro e W1 ⟨v0, x0, rfl, W2, W3, h1, h2, hA⟩)
    | (guard_target =~ wpList _ _ _ (_ :: _) _ _; refine wpList_store rfl 104 (.tmp 2) (.tmp 33) rfl (.pointer (some ⟨g, 0, none⟩)) v0 rfl rfl h1 ?_)
    | (guard_target =~ wpList _ _ _ (_ :: _) _ _; refine wpList_store rfl 24 (.tmp 35) (.tmp 34) rfl (.pointer (some ⟨g + 1, offH 6, none⟩)) x0 rfl rfl h2 ?_)
    | fail)
  clear hld h1 h2
  generalize W3 = W at *
  obtain ⟨D, c, hld, hcl⟩ := ra_num hA hX 9 2147483647 (by decide)
  clear hA
  go_upto_region 9 with (first
    | (guard_target =~ wpList _ _ _ (_ :: _) _ _; refine wpList_load rfl 104 (.tmp 2) rfl (.pointer (some ⟨g, 0, none⟩)) rfl hld ?_)
    | (go_at_call 45; refine hcl.mono ?_; clear hcl; rintro e W1 ⟨v1, x1, rfl, W2, W3, h1, h2, hA⟩)
    | (guard_target =~ wpList _ _ _ (_ :: _) _ _; refine wpList_store rfl 104 (.tmp 2) (.tmp 39) rfl (.pointer (some ⟨g, 0, none⟩)) v1 rfl rfl h1 ?_)
    | (guard_target =~ wpList _ _ _ (_ :: _) _ _; refine wpList_store rfl 2 (.tmp 41) (.tmp 40) rfl (.pointer (some ⟨g + 1, offN 9, none⟩)) x1 rfl rfl h2 ?_)
    | fail)
  clear hld h1 h2
  generalize W3 = W at *
  obtain ⟨D, c, hld, hcl⟩ := ra_hash rdHash_any hA hX 7 (by decide)
  clear hA
  go_upto_region 27 with (first
    | (guard_target =~ wpList _ _ _ (_ :: _) _ _; refine wpList_load rfl 104 (.tmp 2) rfl (.pointer (some ⟨g, 0, none⟩)) rfl hld ?_)
    | (go_at_call 100; refine hcl.mono ?_; clear hcl; rintro e W1 ⟨v2, x2, rfl, W2, W3, h1, h2, hA⟩)
    | (guard_target =~ wpList _ _ _ (_ :: _) _ _; refine wpList_store rfl 104 (.tmp 2) (.tmp 45) rfl (.pointer (some ⟨g, 0, none⟩)) v2 rfl rfl h1 ?_)
    | (guard_target =~ wpList _ _ _ (_ :: _) _ _; refine wpList_store rfl 24 (.tmp 47) (.tmp 46) rfl (.pointer (some ⟨g + 1, offH 7, none⟩)) x2 rfl rfl h2 ?_)
    | fail)
  clear hld h1 h2
  generalize W3 = W at *
  obtain ⟨D, c, hD, hF⟩ := hA.fin
  clear hA
  refine (wpIn_wide (n := 0)).1 ?_
  refine wpIn_region_chain wide_wide [.agg (rfV D (taken (flds 3) r).l.length c (taken (flds 3) r).bad), .agg (saidC (taken (flds 3) r).s), undef] [2] (FN w g D (taken (flds 3) r) c) (fun m W W' hL h => h.later hL) hF (by kernel_rfl) (by kernel_rfl) (by kernel_rfl) (by kernel_rfl) (by kernel_rfl) (by kernel_rfl) rfl (by decide) rfl ⟨?_, ?_, ?_, trivial⟩ ?_
  · exact chStep_val rfl (fun ac W m he hA => stepOk_want rfl (op_load rfl (he.keep (.tmp 2) (by kernel_rfl)) (loadR1 hA.r2) rfl))
  · exact chStep_val rfl (fun ac W m he hA => stepOk_want rfl (op_load rfl (he.keep (.tmp 3) (by kernel_rfl)) (loadSaid hA.wf hA.sd) rfl))
  · refine chStep_put (k := 0) rfl (.inl rfl) (fun ac W he hA => ⟨rfl, ?_⟩)
    obtain ⟨W', hr, hA'⟩ := FN.put hA
    exact op_storeK rfl (he.keep (.tmp 4) (by kernel_rfl)) (show ac.eval (.tmp 126) = .agg (rfV D (taken (flds 3) r).l.length c (taken (flds 3) r).bad) from he.val 0 126 (by kernel_rfl) rfl rfl) hr ⟨undef, rfl, hA'⟩
  intro xs W hA hx hkk hgt
  obtain ⟨W', hr, hlow, h4, h5, hz⟩ := FN.put2 hA
  refine last_store rfl rfl (hkk (.tmp 5) (by kernel_rfl)) ((hgt 1 127 (by decide) (by kernel_rfl)).trans (show xs 1 = .agg (saidC (taken (flds 3) r).s) from hx 1 (by decide) rfl)) hr ?_
  clear hx hkk hgt hA hF hr
  simp only [initL, lastL, putL, Nat.reduceAdd, Act.put, List.setIfInBounds_toArray, List.set_cons_succ, List.set_cons_zero]
  go_wp2_with fail
  exact bodyPost_ret (results_cc rfl _ _ (g + 2) (g + 3) 104 _ _ _ rfl rfl h4 Tryz.underlying104 rfl infoR1 (run_loadVar_row _ _ _ _ _ (0, 0) _ h5 Tryz.underlying29 rfl (by rw [hz]; exact infoSaid))) rfl (HΦ.out _ _ ⟨hlow, _, rfl, D, c, rfl, hD⟩)
set_option maxRecDepth 100000 in
set_option maxHeartbeats 4000000 in
theorem rd_rest4 {A0 : Option Addr} {l0 : List UInt8} {v : Value} {r : RdS} (hv : RefV A0 l0 v r.l r.bad) (hs : r.s.wf) (hk : r.s.kind = 4) (hl : r.l.length ≤ 9223372036854775000 ∧ r.s.route.length ≤ 9223372036854775000) (w : World) (hX : Rd w A0 l0) :
    Calls Tryz.prog 48 #[v, .agg (saidC r.s)] w fun e w' => Later w w' ∧ ∃ v', e = .returned (.tuple #[v', .agg (saidC (taken (flds 4) r).s)]) ∧ RefV A0 l0 v' (taken (flds 4) r).l (taken (flds 4) r).bad := by
  obtain ⟨D0, c0, rfl, hc, hcm, hD0⟩ := hv
  have hbx := boxSaid hs (w.alloc (.cells (rfV D0 r.l.length c0 r.bad) 104))
  have hA := ra_start hs hl w D0 c0 hc hcm hD0
  refine Calls.post fun Φ HΦ => ?_
  go_enter Tryz.func48, Tryz.ntmps48
  go_upto_region 1 with (first
    | (with_reducible refine wpList_alloc rfl 104 rfl (allocR1 _) ?_)
    | (with_reducible refine wpList_alloc rfl 29 rfl (allocSaid _) ?_)
    | fail)
  simp only [World.size_alloc] at hA ⊢
  obtain ⟨g, hg⟩ : ∃ q, q = w.heap.size := ⟨_, rfl⟩
  have HG := Lib.hid hg
  rw [← hg] at hA ⊢
  clear hbx hg
  generalize (((w.alloc (.cells (rfV D0 r.l.length c0 r.bad) 104)).alloc (.cells (saidC r.s) 29)).alloc (.cells (rfV none 0 0 false) 104)).alloc (.cells (saidC (Ms.blank 0)) 29) = W at *
  clear hD0 hc hcm
  have c00 : W.cell? ⟨g + 1, 0, none⟩ = some (.int .i64 4) := (hA.sd.cell 0).trans ((saidC_kind hA.wf).trans (by simp only [take1_kind, hk]))
  go_upto_region 11 with fail
  clear c00
  obtain ⟨D, c, hld, hcl⟩ := ra_hash rdHash_any hA hX 7 (by decide)
  clear hA
  go_upto_region 27 with (first
    | (guard_target =~ wpList _ _ _ (_ :: _) _ _; refine wpList_load rfl 104 (.tmp 2) rfl (.pointer (some ⟨g, 0, none⟩)) rfl hld ?_)
    | (go_at_call 100; refine hcl.mono ?_; clear hcl; rintro e W1 ⟨v0, x0, rfl, W2, W3, h1, h2, hA⟩)
    | (guard_target =~ wpList _ _ _ (_ :: _) _ _; refine wpList_store rfl 104 (.tmp 2) (.tmp 53) rfl (.pointer (some ⟨g, 0, none⟩)) v0 rfl rfl h1 ?_)
    | (guard_target =~ wpList _ _ _ (_ :: _) _ _; refine wpList_store rfl 24 (.tmp 55) (.tmp 54) rfl (.pointer (some ⟨g + 1, offH 7, none⟩)) x0 rfl rfl h2 ?_)
    | fail)
  clear hld h1 h2
  generalize W3 = W at *
  obtain ⟨D, c, hD, hF⟩ := hA.fin
  clear hA
  refine (wpIn_wide (n := 0)).1 ?_
  refine wpIn_region_chain wide_wide [.agg (rfV D (taken (flds 4) r).l.length c (taken (flds 4) r).bad), .agg (saidC (taken (flds 4) r).s), undef] [2] (FN w g D (taken (flds 4) r) c) (fun m W W' hL h => h.later hL) hF (by kernel_rfl) (by kernel_rfl) (by kernel_rfl) (by kernel_rfl) (by kernel_rfl) (by kernel_rfl) rfl (by decide) rfl ⟨?_, ?_, ?_, trivial⟩ ?_
  · exact chStep_val rfl (fun ac W m he hA => stepOk_want rfl (op_load rfl (he.keep (.tmp 2) (by kernel_rfl)) (loadR1 hA.r2) rfl))
  · exact chStep_val rfl (fun ac W m he hA => stepOk_want rfl (op_load rfl (he.keep (.tmp 3) (by kernel_rfl)) (loadSaid hA.wf hA.sd) rfl))
  · refine chStep_put (k := 0) rfl (.inl rfl) (fun ac W he hA => ⟨rfl, ?_⟩)
    obtain ⟨W', hr, hA'⟩ := FN.put hA
    exact op_storeK rfl (he.keep (.tmp 4) (by kernel_rfl)) (show ac.eval (.tmp 126) = .agg (rfV D (taken (flds 4) r).l.length c (taken (flds 4) r).bad) from he.val 0 126 (by kernel_rfl) rfl rfl) hr ⟨undef, rfl, hA'⟩
  intro xs W hA hx hkk hgt
  obtain ⟨W', hr, hlow, h4, h5, hz⟩ := FN.put2 hA
  refine last_store rfl rfl (hkk (.tmp 5) (by kernel_rfl)) ((hgt 1 127 (by decide) (by kernel_rfl)).trans (show xs 1 = .agg (saidC (taken (flds 4) r).s) from hx 1 (by decide) rfl)) hr ?_
  clear hx hkk hgt hA hF hr
  simp only [initL, lastL, putL, Nat.reduceAdd, Act.put, List.setIfInBounds_toArray, List.set_cons_succ, List.set_cons_zero]
  go_wp2_with fail
  exact bodyPost_ret (results_cc rfl _ _ (g + 2) (g + 3) 104 _ _ _ rfl rfl h4 Tryz.underlying104 rfl infoR1 (run_loadVar_row _ _ _ _ _ (0, 0) _ h5 Tryz.underlying29 rfl (by rw [hz]; exact infoSaid))) rfl (HΦ.out _ _ ⟨hlow, _, rfl, D, c, rfl, hD⟩)
set_option maxRecDepth 100000 in
set_option maxHeartbeats 4000000 in
theorem rd_rest9 {A0 : Option Addr} {l0 : List UInt8} {v : Value} {r : RdS} (hv : RefV A0 l0 v r.l r.bad) (hs : r.s.wf) (hk : r.s.kind = 9) (hl : r.l.length ≤ 9223372036854775000 ∧ r.s.route.length ≤ 9223372036854775000) (w : World) (hX : Rd w A0 l0) :
    Calls Tryz.prog 48 #[v, .agg (saidC r.s)] w fun e w' => Later w w' ∧ ∃ v', e = .returned (.tuple #[v', .agg (saidC (taken (flds 9) r).s)]) ∧ RefV A0 l0 v' (taken (flds 9) r).l (taken (flds 9) r).bad := by
  obtain ⟨D0, c0, rfl, hc, hcm, hD0⟩ := hv
  have hbx := boxSaid hs (w.alloc (.cells (rfV D0 r.l.length c0 r.bad) 104))
  have hA := ra_start hs hl w D0 c0 hc hcm hD0
  refine Calls.post fun Φ HΦ => ?_
  go_enter Tryz.func48, Tryz.ntmps48
  go_upto_region 1 with (first
    | (with_reducible refine wpList_alloc rfl 104 rfl (allocR1 _) ?_)
    | (with_reducible refine wpList_alloc rfl 29 rfl (allocSaid _) ?_)
    | fail)
  simp only [World.size_alloc] at hA ⊢
  obtain ⟨g, hg⟩ : ∃ q, q = w.heap.size := ⟨_, rfl⟩
  have HG := Lib.hid hg
  rw [← hg] at hA ⊢
  clear hbx hg
  generalize (((w.alloc (.cells (rfV D0 r.l.length c0 r.bad) 104)).alloc (.cells (saidC r.s) 29)).alloc (.cells (rfV none 0 0 false) 104)).alloc (.cells (saidC (Ms.blank 0)) 29) = W at *
  clear hD0 hc hcm
  have c00 : W.cell? ⟨g + 1, 0, none⟩ = some (.int .i64 9) := (hA.sd.cell 0).trans ((saidC_kind hA.wf).trans (by simp only [take1_kind, hk]))
  go_upto_region 13 with fail
  clear c00
  obtain ⟨D, c, hld, hcl⟩ := ra_num hA hX 8 2147483647 (by decide)
  clear hA
  go_upto_region 14 with (first
    | (guard_target =~ wpList _ _ _ (_ :: _) _ _; refine wpList_load rfl 104 (.tmp 2) rfl (.pointer (some ⟨g, 0, none⟩)) rfl hld ?_)
    | (go_at_call 45; refine hcl.mono ?_; clear hcl; rintro e W1 ⟨v0, x0, rfl, W2, W3, h1, h2, hA⟩)
    | (guard_target =~ wpList _ _ _ (_ :: _) _ _; refine wpList_store rfl 104 (.tmp 2) (.tmp 61) rfl (.pointer (some ⟨g, 0, none⟩)) v0 rfl rfl h1 ?_)
    | (guard_target =~ wpList _ _ _ (_ :: _) _ _; refine wpList_store rfl 2 (.tmp 63) (.tmp 62) rfl (.pointer (some ⟨g + 1, offN 8, none⟩)) x0 rfl rfl h2 ?_)
    | fail)
  clear hld h1 h2
  generalize W3 = W at *
  obtain ⟨D, c, hld, hcl⟩ := ra_hash rdHash_any hA hX 7 (by decide)
  clear hA
  go_upto_region 27 with (first
    | (guard_target =~ wpList _ _ _ (_ :: _) _ _; refine wpList_load rfl 104 (.tmp 2) rfl (.pointer (some ⟨g, 0, none⟩)) rfl hld ?_)
    | (go_at_call 100; refine hcl.mono ?_; clear hcl; rintro e W1 ⟨v1, x1, rfl, W2, W3, h1, h2, hA⟩)
    | (guard_target =~ wpList _ _ _ (_ :: _) _ _; refine wpList_store rfl 104 (.tmp 2) (.tmp 67) rfl (.pointer (some ⟨g, 0, none⟩)) v1 rfl rfl h1 ?_)
    | (guard_target =~ wpList _ _ _ (_ :: _) _ _; refine wpList_store rfl 24 (.tmp 69) (.tmp 68) rfl (.pointer (some ⟨g + 1, offH 7, none⟩)) x1 rfl rfl h2 ?_)
    | fail)
  clear hld h1 h2
  generalize W3 = W at *
  obtain ⟨D, c, hD, hF⟩ := hA.fin
  clear hA
  refine (wpIn_wide (n := 0)).1 ?_
  refine wpIn_region_chain wide_wide [.agg (rfV D (taken (flds 9) r).l.length c (taken (flds 9) r).bad), .agg (saidC (taken (flds 9) r).s), undef] [2] (FN w g D (taken (flds 9) r) c) (fun m W W' hL h => h.later hL) hF (by kernel_rfl) (by kernel_rfl) (by kernel_rfl) (by kernel_rfl) (by kernel_rfl) (by kernel_rfl) rfl (by decide) rfl ⟨?_, ?_, ?_, trivial⟩ ?_
  · exact chStep_val rfl (fun ac W m he hA => stepOk_want rfl (op_load rfl (he.keep (.tmp 2) (by kernel_rfl)) (loadR1 hA.r2) rfl))
  · exact chStep_val rfl (fun ac W m he hA => stepOk_want rfl (op_load rfl (he.keep (.tmp 3) (by kernel_rfl)) (loadSaid hA.wf hA.sd) rfl))
  · refine chStep_put (k := 0) rfl (.inl rfl) (fun ac W he hA => ⟨rfl, ?_⟩)
    obtain ⟨W', hr, hA'⟩ := FN.put hA
    exact op_storeK rfl (he.keep (.tmp 4) (by kernel_rfl)) (show ac.eval (.tmp 126) = .agg (rfV D (taken (flds 9) r).l.length c (taken (flds 9) r).bad) from he.val 0 126 (by kernel_rfl) rfl rfl) hr ⟨undef, rfl, hA'⟩
  intro xs W hA hx hkk hgt
  obtain ⟨W', hr, hlow, h4, h5, hz⟩ := FN.put2 hA
  refine last_store rfl rfl (hkk (.tmp 5) (by kernel_rfl)) ((hgt 1 127 (by decide) (by kernel_rfl)).trans (show xs 1 = .agg (saidC (taken (flds 9) r).s) from hx 1 (by decide) rfl)) hr ?_
  clear hx hkk hgt hA hF hr
  simp only [initL, lastL, putL, Nat.reduceAdd, Act.put, List.setIfInBounds_toArray, List.set_cons_succ, List.set_cons_zero]
  go_wp2_with fail
  exact bodyPost_ret (results_cc rfl _ _ (g + 2) (g + 3) 104 _ _ _ rfl rfl h4 Tryz.underlying104 rfl infoR1 (run_loadVar_row _ _ _ _ _ (0, 0) _ h5 Tryz.underlying29 rfl (by rw [hz]; exact infoSaid))) rfl (HΦ.out _ _ ⟨hlow, _, rfl, D, c, rfl, hD⟩)
set_option maxRecDepth 100000 in
set_option maxHeartbeats 4000000 in
theorem rd_rest10 {A0 : Option Addr} {l0 : List UInt8} {v : Value} {r : RdS} (hv : RefV A0 l0 v r.l r.bad) (hs : r.s.wf) (hk : r.s.kind = 10) (hl : r.l.length ≤ 9223372036854775000 ∧ r.s.route.length ≤ 9223372036854775000) (w : World) (hX : Rd w A0 l0) :
    Calls Tryz.prog 48 #[v, .agg (saidC r.s)] w fun e w' => Later w w' ∧ ∃ v', e = .returned (.tuple #[v', .agg (saidC (taken (flds 10) r).s)]) ∧ RefV A0 l0 v' (taken (flds 10) r).l (taken (flds 10) r).bad := by
  obtain ⟨D0, c0, rfl, hc, hcm, hD0⟩ := hv
  have hbx := boxSaid hs (w.alloc (.cells (rfV D0 r.l.length c0 r.bad) 104))
  have hA := ra_start hs hl w D0 c0 hc hcm hD0
  refine Calls.post fun Φ HΦ => ?_
  go_enter Tryz.func48, Tryz.ntmps48
  go_upto_region 1 with (first
    | (with_reducible refine wpList_alloc rfl 104 rfl (allocR1 _) ?_)
    | (with_reducible refine wpList_alloc rfl 29 rfl (allocSaid _) ?_)
    | fail)
  simp only [World.size_alloc] at hA ⊢
  obtain ⟨g, hg⟩ : ∃ q, q = w.heap.size := ⟨_, rfl⟩
  have HG := Lib.hid hg
  rw [← hg] at hA ⊢
  clear hbx hg
  generalize (((w.alloc (.cells (rfV D0 r.l.length c0 r.bad) 104)).alloc (.cells (saidC r.s) 29)).alloc (.cells (rfV none 0 0 false) 104)).alloc (.cells (saidC (Ms.blank 0)) 29) = W at *
  clear hD0 hc hcm
  have c00 : W.cell? ⟨g + 1, 0, none⟩ = some (.int .i64 10) := (hA.sd.cell 0).trans ((saidC_kind hA.wf).trans (by simp only [take1_kind, hk]))
  go_upto_region 16 with fail
  clear c00
  obtain ⟨D, c, hld, hcl⟩ := ra_num hA hX 8 2147483647 (by decide)
  clear hA
  go_upto_region 17 with (first
    | (guard_target =~ wpList _ _ _ (_ :: _) _ _; refine wpList_load rfl 104 (.tmp 2) rfl (.pointer (some ⟨g, 0, none⟩)) rfl hld ?_)
    | (go_at_call 45; refine hcl.mono ?_; clear hcl; rintro e W1 ⟨v0, x0, rfl, W2, W3, h1, h2, hA⟩)
    | (guard_target =~ wpList _ _ _ (_ :: _) _ _; refine wpList_store rfl 104 (.tmp 2) (.tmp 75) rfl (.pointer (some ⟨g, 0, none⟩)) v0 rfl rfl h1 ?_)
    | (guard_target =~ wpList _ _ _ (_ :: _) _ _; refine wpList_store rfl 2 (.tmp 77) (.tmp 76) rfl (.pointer (some ⟨g + 1, offN 8, none⟩)) x0 rfl rfl h2 ?_)
    | fail)
  clear hld h1 h2
  generalize W3 = W at *
  obtain ⟨D, c, hld, hcl⟩ := ra_hash rdHash_any hA hX 8 (by decide)
  clear hA
  go_upto_region 18 with (first
    | (guard_target =~ wpList _ _ _ (_ :: _) _ _; refine wpList_load rfl 104 (.tmp 2) rfl (.pointer (some ⟨g, 0, none⟩)) rfl hld ?_)
    | (go_at_call 100; refine hcl.mono ?_; clear hcl; rintro e W1 ⟨v1, x1, rfl, W2, W3, h1, h2, hA⟩)
    | (guard_target =~ wpList _ _ _ (_ :: _) _ _; refine wpList_store rfl 104 (.tmp 2) (.tmp 81) rfl (.pointer (some ⟨g, 0, none⟩)) v1 rfl rfl h1 ?_)
    | (guard_target =~ wpList _ _ _ (_ :: _) _ _; refine wpList_store rfl 24 (.tmp 83) (.tmp 82) rfl (.pointer (some ⟨g + 1, offH 8, none⟩)) x1 rfl rfl h2 ?_)
    | fail)
  clear hld h1 h2
  generalize W3 = W at *
  obtain ⟨D, c, hld, hcl⟩ := ra_hash rdHash_any hA hX 4 (by decide)
  clear hA
  go_upto_region 27 with (first
    | (guard_target =~ wpList _ _ _ (_ :: _) _ _; refine wpList_load rfl 104 (.tmp 2) rfl (.pointer (some ⟨g, 0, none⟩)) rfl hld ?_)
    | (go_at_call 100; refine hcl.mono ?_; clear hcl; rintro e W1 ⟨v2, x2, rfl, W2, W3, h1, h2, hA⟩)
    | (guard_target =~ wpList _ _ _ (_ :: _) _ _; refine wpList_store rfl 104 (.tmp 2) (.tmp 87) rfl (.pointer (some ⟨g, 0, none⟩)) v2 rfl rfl h1 ?_)
    | (guard_target =~ wpList _ _ _ (_ :: _) _ _; refine wpList_store rfl 24 (.tmp 89) (.tmp 88) rfl (.pointer (some ⟨g + 1, offH 4, none⟩)) x2 rfl rfl h2 ?_)
    | fail)
  clear hld h1 h2
  generalize W3 = W at *
  obtain ⟨D, c, hD, hF⟩ := hA.fin
  clear hA
  refine (wpIn_wide (n := 0)).1 ?_
  refine wpIn_region_chain wide_wide [.agg (rfV D (taken (flds 10) r).l.length c (taken (flds 10) r).bad), .agg (saidC (taken (flds 10) r).s), undef] [2] (FN w g D (taken (flds 10) r) c) (fun m W W' hL h => h.later hL) hF (by kernel_rfl) (by kernel_rfl) (by kernel_rfl) (by kernel_rfl) (by kernel_rfl) (by kernel_rfl) rfl (by decide) rfl ⟨?_, ?_, ?_, trivial⟩ ?_
  · exact chStep_val rfl (fun ac W m he hA => stepOk_want rfl (op_load rfl (he.keep (.tmp 2) (by kernel_rfl)) (loadR1 hA.r2) rfl))
  · exact chStep_val rfl (fun ac W m he hA => stepOk_want rfl (op_load rfl (he.keep (.tmp 3) (by kernel_rfl)) (loadSaid hA.wf hA.sd) rfl))
  · refine chStep_put (k := 0) rfl (.inl rfl) (fun ac W he hA => ⟨rfl, ?_⟩)
    obtain ⟨W', hr, hA'⟩ := FN.put hA
    exact op_storeK rfl (he.keep (.tmp 4) (by kernel_rfl)) (show ac.eval (.tmp 126) = .agg (rfV D (taken (flds 10) r).l.length c (taken (flds 10) r).bad) from he.val 0 126 (by kernel_rfl) rfl rfl) hr ⟨undef, rfl, hA'⟩
  intro xs W hA hx hkk hgt
  obtain ⟨W', hr, hlow, h4, h5, hz⟩ := FN.put2 hA
  refine last_store rfl rfl (hkk (.tmp 5) (by kernel_rfl)) ((hgt 1 127 (by decide) (by kernel_rfl)).trans (show xs 1 = .agg (saidC (taken (flds 10) r).s) from hx 1 (by decide) rfl)) hr ?_
  clear hx hkk hgt hA hF hr
  simp only [initL, lastL, putL, Nat.reduceAdd, Act.put, List.setIfInBounds_toArray, List.set_cons_succ, List.set_cons_zero]
  go_wp2_with fail
  exact bodyPost_ret (results_cc rfl _ _ (g + 2) (g + 3) 104 _ _ _ rfl rfl h4 Tryz.underlying104 rfl infoR1 (run_loadVar_row _ _ _ _ _ (0, 0) _ h5 Tryz.underlying29 rfl (by rw [hz]; exact infoSaid))) rfl (HΦ.out _ _ ⟨hlow, _, rfl, D, c, rfl, hD⟩)
set_option maxRecDepth 100000 in
set_option maxHeartbeats 4000000 in
theorem rd_rest11 {A0 : Option Addr} {l0 : List UInt8} {v : Value} {r : RdS} (hv : RefV A0 l0 v r.l r.bad) (hs : r.s.wf) (hk : r.s.kind = 11) (hl : r.l.length ≤ 9223372036854775000 ∧ r.s.route.length ≤ 9223372036854775000) (w : World) (hX : Rd w A0 l0) :
    Calls Tryz.prog 48 #[v, .agg (saidC r.s)] w fun e w' => Later w w' ∧ ∃ v', e = .returned (.tuple #[v', .agg (saidC (taken (flds 11) r).s)]) ∧ RefV A0 l0 v' (taken (flds 11) r).l (taken (flds 11) r).bad := by
  obtain ⟨D0, c0, rfl, hc, hcm, hD0⟩ := hv
  have hbx := boxSaid hs (w.alloc (.cells (rfV D0 r.l.length c0 r.bad) 104))
  have hA := ra_start hs hl w D0 c0 hc hcm hD0
  refine Calls.post fun Φ HΦ => ?_
  go_enter Tryz.func48, Tryz.ntmps48
  go_upto_region 1 with (first
    | (with_reducible refine wpList_alloc rfl 104 rfl (allocR1 _) ?_)
    | (with_reducible refine wpList_alloc rfl 29 rfl (allocSaid _) ?_)
    | fail)
  simp only [World.size_alloc] at hA ⊢
  obtain ⟨g, hg⟩ : ∃ q, q = w.heap.size := ⟨_, rfl⟩
  have HG := Lib.hid hg
  rw [← hg] at hA ⊢
  clear hbx hg
  generalize (((w.alloc (.cells (rfV D0 r.l.length c0 r.bad) 104)).alloc (.cells (saidC r.s) 29)).alloc (.cells (rfV none 0 0 false) 104)).alloc (.cells (saidC (Ms.blank 0)) 29) = W at *
  clear hD0 hc hcm
  have c00 : W.cell? ⟨g + 1, 0, none⟩ = some (.int .i64 11) := (hA.sd.cell 0).trans ((saidC_kind hA.wf).trans (by simp only [take1_kind, hk]))
  go_upto_region 20 with fail
  clear c00
  obtain ⟨D, c, hld, hcl⟩ := ra_num hA hX 8 2147483647 (by decide)
  clear hA
  go_upto_region 21 with (first
    | (guard_target =~ wpList _ _ _ (_ :: _) _ _; refine wpList_load rfl 104 (.tmp 2) rfl (.pointer (some ⟨g, 0, none⟩)) rfl hld ?_)
    | (go_at_call 45; refine hcl.mono ?_; clear hcl; rintro e W1 ⟨v0, x0, rfl, W2, W3, h1, h2, hA⟩)
    | (guard_target =~ wpList _ _ _ (_ :: _) _ _; refine wpList_store rfl 104 (.tmp 2) (.tmp 95) rfl (.pointer (some ⟨g, 0, none⟩)) v0 rfl rfl h1 ?_)
    | (guard_target =~ wpList _ _ _ (_ :: _) _ _; refine wpList_store rfl 2 (.tmp 97) (.tmp 96) rfl (.pointer (some ⟨g + 1, offN 8, none⟩)) x0 rfl rfl h2 ?_)
    | fail)
  clear hld h1 h2
  generalize W3 = W at *
  obtain ⟨D, c, hld, hcl⟩ := ra_num hA hX 7 2147483647 (by decide)
  clear hA
  go_upto_region 27 with (first
    | (guard_target =~ wpList _ _ _ (_ :: _) _ _; refine wpList_load rfl 104 (.tmp 2) rfl (.pointer (some ⟨g, 0, none⟩)) rfl hld ?_)
    | (go_at_call 45; refine hcl.mono ?_; clear hcl; rintro e W1 ⟨v1, x1, rfl, W2, W3, h1, h2, hA⟩)
    | (guard_target =~ wpList _ _ _ (_ :: _) _ _; refine wpList_store rfl 104 (.tmp 2) (.tmp 101) rfl (.pointer (some ⟨g, 0, none⟩)) v1 rfl rfl h1 ?_)
    | (guard_target =~ wpList _ _ _ (_ :: _) _ _; refine wpList_store rfl 2 (.tmp 103) (.tmp 102) rfl (.pointer (some ⟨g + 1, offN 7, none⟩)) x1 rfl rfl h2 ?_)
    | fail)
  clear hld h1 h2
  generalize W3 = W at *
  obtain ⟨D, c, hD, hF⟩ := hA.fin
  clear hA
  refine (wpIn_wide (n := 0)).1 ?_
  refine wpIn_region_chain wide_wide [.agg (rfV D (taken (flds 11) r).l.length c (taken (flds 11) r).bad), .agg (saidC (taken (flds 11) r).s), undef] [2] (FN w g D (taken (flds 11) r) c) (fun m W W' hL h => h.later hL) hF (by kernel_rfl) (by kernel_rfl) (by kernel_rfl) (by kernel_rfl) (by kernel_rfl) (by kernel_rfl) rfl (by decide) rfl ⟨?_, ?_, ?_, trivial⟩ ?_
  · exact chStep_val rfl (fun ac W m he hA => stepOk_want rfl (op_load rfl (he.keep (.tmp 2) (by kernel_rfl)) (loadR1 hA.r2) rfl))
  · exact chStep_val rfl (fun ac W m he hA => stepOk_want rfl (op_load rfl (he.keep (.tmp 3) (by kernel_rfl)) (loadSaid hA.wf hA.sd) rfl))
  · refine chStep_put (k := 0) rfl (.inl rfl) (fun ac W he hA => ⟨rfl, ?_⟩)
    obtain ⟨W', hr, hA'⟩ := FN.put hA
    exact op_storeK rfl (he.keep (.tmp 4) (by kernel_rfl)) (show ac.eval (.tmp 126) = .agg (rfV D (taken (flds 11) r).l.length c (taken (flds 11) r).bad) from he.val 0 126 (by kernel_rfl) rfl rfl) hr ⟨undef, rfl, hA'⟩
  intro xs W hA hx hkk hgt
  obtain ⟨W', hr, hlow, h4, h5, hz⟩ := FN.put2 hA
  refine last_store rfl rfl (hkk (.tmp 5) (by kernel_rfl)) ((hgt 1 127 (by decide) (by kernel_rfl)).trans (show xs 1 = .agg (saidC (taken (flds 11) r).s) from hx 1 (by decide) rfl)) hr ?_
  clear hx hkk hgt hA hF hr
  simp only [initL, lastL, putL, Nat.reduceAdd, Act.put, List.setIfInBounds_toArray, List.set_cons_succ, List.set_cons_zero]
  go_wp2_with fail
  exact bodyPost_ret (results_cc rfl _ _ (g + 2) (g + 3) 104 _ _ _ rfl rfl h4 Tryz.underlying104 rfl infoR1 (run_loadVar_row _ _ _ _ _ (0, 0) _ h5 Tryz.underlying29 rfl (by rw [hz]; exact infoSaid))) rfl (HΦ.out _ _ ⟨hlow, _, rfl, D, c, rfl, hD⟩)
set_option maxRecDepth 100000 in
set_option maxHeartbeats 4000000 in
theorem rd_rest13 {A0 : Option Addr} {l0 : List UInt8} {v : Value} {r : RdS} (hv : RefV A0 l0 v r.l r.bad) (hs : r.s.wf) (hk : r.s.kind = 13) (hl : r.l.length ≤ 9223372036854775000 ∧ r.s.route.length ≤ 9223372036854775000) (w : World) (hX : Rd w A0 l0) :
    Calls Tryz.prog 48 #[v, .agg (saidC r.s)] w fun e w' => Later w w' ∧ ∃ v', e = .returned (.tuple #[v', .agg (saidC (taken (flds 13) r).s)]) ∧ RefV A0 l0 v' (taken (flds 13) r).l (taken (flds 13) r).bad := by
  obtain ⟨D0, c0, rfl, hc, hcm, hD0⟩ := hv
  have hbx := boxSaid hs (w.alloc (.cells (rfV D0 r.l.length c0 r.bad) 104))
  have hA := ra_start hs hl w D0 c0 hc hcm hD0
  refine Calls.post fun Φ HΦ => ?_
  go_enter Tryz.func48, Tryz.ntmps48
  go_upto_region 1 with (first
    | (with_reducible refine wpList_alloc rfl 104 rfl (allocR1 _) ?_)
    | (with_reducible refine wpList_alloc rfl 29 rfl (allocSaid _) ?_)
    | fail)
  simp only [World.size_alloc] at hA ⊢
  obtain ⟨g, hg⟩ : ∃ q, q = w.heap.size := ⟨_, rfl⟩
  have HG := Lib.hid hg
  rw [← hg] at hA ⊢
  clear hbx hg
  generalize (((w.alloc (.cells (rfV D0 r.l.length c0 r.bad) 104)).alloc (.cells (saidC r.s) 29)).alloc (.cells (rfV none 0 0 false) 104)).alloc (.cells (saidC (Ms.blank 0)) 29) = W at *
  clear hD0 hc hcm
  have c00 : W.cell? ⟨g + 1, 0, none⟩ = some (.int .i64 13) := (hA.sd.cell 0).trans ((saidC_kind hA.wf).trans (by simp only [take1_kind, hk]))
  go_upto_region 23 with fail
  clear c00
  obtain ⟨D, c, hld, hcl⟩ := ra_num hA hX 6 1125899906842624 (by decide)
  clear hA
  go_upto_region 24 with (first
    | (guard_target =~ wpList _ _ _ (_ :: _) _ _; refine wpList_load rfl 104 (.tmp 2) rfl (.pointer (some ⟨g, 0, none⟩)) rfl hld ?_)
    | (go_at_call 45; refine hcl.mono ?_; clear hcl; rintro e W1 ⟨v0, x0, rfl, W2, W3, h1, h2, hA⟩)
    | (guard_target =~ wpList _ _ _ (_ :: _) _ _; refine wpList_store rfl 104 (.tmp 2) (.tmp 109) rfl (.pointer (some ⟨g, 0, none⟩)) v0 rfl rfl h1 ?_)
    | (guard_target =~ wpList _ _ _ (_ :: _) _ _; refine wpList_store rfl 2 (.tmp 111) (.tmp 110) rfl (.pointer (some ⟨g + 1, offN 6, none⟩)) x0 rfl rfl h2 ?_)
    | fail)
  clear hld h1 h2
  generalize W3 = W at *
  obtain ⟨D, c, hld, hcl⟩ := ra_hash rdHash_any hA hX 7 (by decide)
  clear hA
  go_upto_region 27 with (first
    | (guard_target =~ wpList _ _ _ (_ :: _) _ _; refine wpList_load rfl 104 (.tmp 2) rfl (.pointer (some ⟨g, 0, none⟩)) rfl hld ?_)
    | (go_at_call 100; refine hcl.mono ?_; clear hcl; rintro e W1 ⟨v1, x1, rfl, W2, W3, h1, h2, hA⟩)
    | (guard_target =~ wpList _ _ _ (_ :: _) _ _; refine wpList_store rfl 104 (.tmp 2) (.tmp 115) rfl (.pointer (some ⟨g, 0, none⟩)) v1 rfl rfl h1 ?_)
    | (guard_target =~ wpList _ _ _ (_ :: _) _ _; refine wpList_store rfl 24 (.tmp 117) (.tmp 116) rfl (.pointer (some ⟨g + 1, offH 7, none⟩)) x1 rfl rfl h2 ?_)
    | fail)
  clear hld h1 h2
  generalize W3 = W at *
  obtain ⟨D, c, hD, hF⟩ := hA.fin
  clear hA
  refine (wpIn_wide (n := 0)).1 ?_
  refine wpIn_region_chain wide_wide [.agg (rfV D (taken (flds 13) r).l.length c (taken (flds 13) r).bad), .agg (saidC (taken (flds 13) r).s), undef] [2] (FN w g D (taken (flds 13) r) c) (fun m W W' hL h => h.later hL) hF (by kernel_rfl) (by kernel_rfl) (by kernel_rfl) (by kernel_rfl) (by kernel_rfl) (by kernel_rfl) rfl (by decide) rfl ⟨?_, ?_, ?_, trivial⟩ ?_
  · exact chStep_val rfl (fun ac W m he hA => stepOk_want rfl (op_load rfl (he.keep (.tmp 2) (by kernel_rfl)) (loadR1 hA.r2) rfl))
  · exact chStep_val rfl (fun ac W m he hA => stepOk_want rfl (op_load rfl (he.keep (.tmp 3) (by kernel_rfl)) (loadSaid hA.wf hA.sd) rfl))
  · refine chStep_put (k := 0) rfl (.inl rfl) (fun ac W he hA => ⟨rfl, ?_⟩)
    obtain ⟨W', hr, hA'⟩ := FN.put hA
    exact op_storeK rfl (he.keep (.tmp 4) (by kernel_rfl)) (show ac.eval (.tmp 126) = .agg (rfV D (taken (flds 13) r).l.length c (taken (flds 13) r).bad) from he.val 0 126 (by kernel_rfl) rfl rfl) hr ⟨undef, rfl, hA'⟩
  intro xs W hA hx hkk hgt
  obtain ⟨W', hr, hlow, h4, h5, hz⟩ := FN.put2 hA
  refine last_store rfl rfl (hkk (.tmp 5) (by kernel_rfl)) ((hgt 1 127 (by decide) (by kernel_rfl)).trans (show xs 1 = .agg (saidC (taken (flds 13) r).s) from hx 1 (by decide) rfl)) hr ?_
  clear hx hkk hgt hA hF hr
  simp only [initL, lastL, putL, Nat.reduceAdd, Act.put, List.setIfInBounds_toArray, List.set_cons_succ, List.set_cons_zero]
  go_wp2_with fail
  exact bodyPost_ret (results_cc rfl _ _ (g + 2) (g + 3) 104 _ _ _ rfl rfl h4 Tryz.underlying104 rfl infoR1 (run_loadVar_row _ _ _ _ _ (0, 0) _ h5 Tryz.underlying29 rfl (by rw [hz]; exact infoSaid))) rfl (HΦ.out _ _ ⟨hlow, _, rfl, D, c, rfl, hD⟩)
set_option maxRecDepth 100000 in
set_option maxHeartbeats 4000000 in
theorem rd_rest14 {A0 : Option Addr} {l0 : List UInt8} {v : Value} {r : RdS} (hv : RefV A0 l0 v r.l r.bad) (hs : r.s.wf) (hk : r.s.kind = 14) (hl : r.l.length ≤ 9223372036854775000 ∧ r.s.route.length ≤ 9223372036854775000) (w : World) (hX : Rd w A0 l0) :
    Calls Tryz.prog 48 #[v, .agg (saidC r.s)] w fun e w' => Later w w' ∧ ∃ v', e = .returned (.tuple #[v', .agg (saidC (taken (flds 14) r).s)]) ∧ RefV A0 l0 v' (taken (flds 14) r).l (taken (flds 14) r).bad := by
  obtain ⟨D0, c0, rfl, hc, hcm, hD0⟩ := hv
  have hbx := boxSaid hs (w.alloc (.cells (rfV D0 r.l.length c0 r.bad) 104))
  have hA := ra_start hs hl w D0 c0 hc hcm hD0
  refine Calls.post fun Φ HΦ => ?_
  go_enter Tryz.func48, Tryz.ntmps48
  go_upto_region 1 with (first
    | (with_reducible refine wpList_alloc rfl 104 rfl (allocR1 _) ?_)
    | (with_reducible refine wpList_alloc rfl 29 rfl (allocSaid _) ?_)
    | fail)
  simp only [World.size_alloc] at hA ⊢
  obtain ⟨g, hg⟩ : ∃ q, q = w.heap.size := ⟨_, rfl⟩
  have HG := Lib.hid hg
  rw [← hg] at hA ⊢
  clear hbx hg
  generalize (((w.alloc (.cells (rfV D0 r.l.length c0 r.bad) 104)).alloc (.cells (saidC r.s) 29)).alloc (.cells (rfV none 0 0 false) 104)).alloc (.cells (saidC (Ms.blank 0)) 29) = W at *
  clear hD0 hc hcm
  have c00 : W.cell? ⟨g + 1, 0, none⟩ = some (.int .i64 14) := (hA.sd.cell 0).trans ((saidC_kind hA.wf).trans (by simp only [take1_kind, hk]))
  go_upto_region 26 with fail
  clear c00
  obtain ⟨D, c, hld, hcl⟩ := ra_num hA hX 11 2147483647 (by decide)
  clear hA
  go_upto_region 27 with (first
    | (guard_target =~ wpList _ _ _ (_ :: _) _ _; refine wpList_load rfl 104 (.tmp 2) rfl (.pointer (some ⟨g, 0, none⟩)) rfl hld ?_)
    | (go_at_call 45; refine hcl.mono ?_; clear hcl; rintro e W1 ⟨v0, x0, rfl, W2, W3, h1, h2, hA⟩)
    | (guard_target =~ wpList _ _ _ (_ :: _) _ _; refine wpList_store rfl 104 (.tmp 2) (.tmp 123) rfl (.pointer (some ⟨g, 0, none⟩)) v0 rfl rfl h1 ?_)
    | (guard_target =~ wpList _ _ _ (_ :: _) _ _; refine wpList_store rfl 2 (.tmp 125) (.tmp 124) rfl (.pointer (some ⟨g + 1, offN 11, none⟩)) x0 rfl rfl h2 ?_)
    | fail)
  clear hld h1 h2
  generalize W3 = W at *
  obtain ⟨D, c, hD, hF⟩ := hA.fin
  clear hA
  refine (wpIn_wide (n := 0)).1 ?_
  refine wpIn_region_chain wide_wide [.agg (rfV D (taken (flds 14) r).l.length c (taken (flds 14) r).bad), .agg (saidC (taken (flds 14) r).s), undef] [2] (FN w g D (taken (flds 14) r) c) (fun m W W' hL h => h.later hL) hF (by kernel_rfl) (by kernel_rfl) (by kernel_rfl) (by kernel_rfl) (by kernel_rfl) (by kernel_rfl) rfl (by decide) rfl ⟨?_, ?_, ?_, trivial⟩ ?_
  · exact chStep_val rfl (fun ac W m he hA => stepOk_want rfl (op_load rfl (he.keep (.tmp 2) (by kernel_rfl)) (loadR1 hA.r2) rfl))
  · exact chStep_val rfl (fun ac W m he hA => stepOk_want rfl (op_load rfl (he.keep (.tmp 3) (by kernel_rfl)) (loadSaid hA.wf hA.sd) rfl))
  · refine chStep_put (k := 0) rfl (.inl rfl) (fun ac W he hA => ⟨rfl, ?_⟩)
    obtain ⟨W', hr, hA'⟩ := FN.put hA
    exact op_storeK rfl (he.keep (.tmp 4) (by kernel_rfl)) (show ac.eval (.tmp 126) = .agg (rfV D (taken (flds 14) r).l.length c (taken (flds 14) r).bad) from he.val 0 126 (by kernel_rfl) rfl rfl) hr ⟨undef, rfl, hA'⟩
  intro xs W hA hx hkk hgt
  obtain ⟨W', hr, hlow, h4, h5, hz⟩ := FN.put2 hA
  refine last_store rfl rfl (hkk (.tmp 5) (by kernel_rfl)) ((hgt 1 127 (by decide) (by kernel_rfl)).trans (show xs 1 = .agg (saidC (taken (flds 14) r).s) from hx 1 (by decide) rfl)) hr ?_
  clear hx hkk hgt hA hF hr
  simp only [initL, lastL, putL, Nat.reduceAdd, Act.put, List.setIfInBounds_toArray, List.set_cons_succ, List.set_cons_zero]
  go_wp2_with fail
  exact bodyPost_ret (results_cc rfl _ _ (g + 2) (g + 3) 104 _ _ _ rfl rfl h4 Tryz.underlying104 rfl infoR1 (run_loadVar_row _ _ _ _ _ (0, 0) _ h5 Tryz.underlying29 rfl (by rw [hz]; exact infoSaid))) rfl (HΦ.out _ _ ⟨hlow, _, rfl, D, c, rfl, hD⟩)
set_option maxRecDepth 100000 in
set_option maxHeartbeats 4000000 in
theorem rd_rest0 {A0 : Option Addr} {l0 : List UInt8} {v : Value} {r : RdS} (hv : RefV A0 l0 v r.l r.bad) (hs : r.s.wf) (hk : r.s.kind = 0) (hl : r.l.length ≤ 9223372036854775000 ∧ r.s.route.length ≤ 9223372036854775000) (w : World) (hX : Rd w A0 l0) :
    Calls Tryz.prog 48 #[v, .agg (saidC r.s)] w fun e w' => Later w w' ∧ ∃ v', e = .returned (.tuple #[v', .agg (saidC (taken (flds 0) r).s)]) ∧ RefV A0 l0 v' (taken (flds 0) r).l (taken (flds 0) r).bad := by
  obtain ⟨D0, c0, rfl, hc, hcm, hD0⟩ := hv
  have hbx := boxSaid hs (w.alloc (.cells (rfV D0 r.l.length c0 r.bad) 104))
  have hA := ra_start hs hl w D0 c0 hc hcm hD0
  refine Calls.post fun Φ HΦ => ?_
  go_enter Tryz.func48, Tryz.ntmps48
  go_upto_region 1 with (first
    | (with_reducible refine wpList_alloc rfl 104 rfl (allocR1 _) ?_)
    | (with_reducible refine wpList_alloc rfl 29 rfl (allocSaid _) ?_)
    | fail)
  simp only [World.size_alloc] at hA ⊢
  obtain ⟨g, hg⟩ : ∃ q, q = w.heap.size := ⟨_, rfl⟩
  have HG := Lib.hid hg
  rw [← hg] at hA ⊢
  clear hbx hg
  generalize (((w.alloc (.cells (rfV D0 r.l.length c0 r.bad) 104)).alloc (.cells (saidC r.s) 29)).alloc (.cells (rfV none 0 0 false) 104)).alloc (.cells (saidC (Ms.blank 0)) 29) = W at *
  clear hD0 hc hcm
  have c00 : W.cell? ⟨g + 1, 0, none⟩ = some (.int .i64 0) := (hA.sd.cell 0).trans ((saidC_kind hA.wf).trans (by simp only [take1_kind, hk]))
  go_upto_region 27 with fail
  clear c00
  obtain ⟨D, c, hD, hF⟩ := hA.fin
  clear hA
  refine (wpIn_wide (n := 0)).1 ?_
  refine wpIn_region_chain wide_wide [.agg (rfV D (taken (flds 0) r).l.length c (taken (flds 0) r).bad), .agg (saidC (taken (flds 0) r).s), undef] [2] (FN w g D (taken (flds 0) r) c) (fun m W W' hL h => h.later hL) hF (by kernel_rfl) (by kernel_rfl) (by kernel_rfl) (by kernel_rfl) (by kernel_rfl) (by kernel_rfl) rfl (by decide) rfl ⟨?_, ?_, ?_, trivial⟩ ?_
  · exact chStep_val rfl (fun ac W m he hA => stepOk_want rfl (op_load rfl (he.keep (.tmp 2) (by kernel_rfl)) (loadR1 hA.r2) rfl))
  · exact chStep_val rfl (fun ac W m he hA => stepOk_want rfl (op_load rfl (he.keep (.tmp 3) (by kernel_rfl)) (loadSaid hA.wf hA.sd) rfl))
  · refine chStep_put (k := 0) rfl (.inl rfl) (fun ac W he hA => ⟨rfl, ?_⟩)
    obtain ⟨W', hr, hA'⟩ := FN.put hA
    exact op_storeK rfl (he.keep (.tmp 4) (by kernel_rfl)) (show ac.eval (.tmp 126) = .agg (rfV D (taken (flds 0) r).l.length c (taken (flds 0) r).bad) from he.val 0 126 (by kernel_rfl) rfl rfl) hr ⟨undef, rfl, hA'⟩
  intro xs W hA hx hkk hgt
  obtain ⟨W', hr, hlow, h4, h5, hz⟩ := FN.put2 hA
  refine last_store rfl rfl (hkk (.tmp 5) (by kernel_rfl)) ((hgt 1 127 (by decide) (by kernel_rfl)).trans (show xs 1 = .agg (saidC (taken (flds 0) r).s) from hx 1 (by decide) rfl)) hr ?_
  clear hx hkk hgt hA hF hr
  simp only [initL, lastL, putL, Nat.reduceAdd, Act.put, List.setIfInBounds_toArray, List.set_cons_succ, List.set_cons_zero]
  go_wp2_with fail
  exact bodyPost_ret (results_cc rfl _ _ (g + 2) (g + 3) 104 _ _ _ rfl rfl h4 Tryz.underlying104 rfl infoR1 (run_loadVar_row _ _ _ _ _ (0, 0) _ h5 Tryz.underlying29 rfl (by rw [hz]; exact infoSaid))) rfl (HΦ.out _ _ ⟨hlow, _, rfl, D, c, rfl, hD⟩)
set_option maxRecDepth 100000 in
set_option maxHeartbeats 4000000 in
theorem rd_rest5 {A0 : Option Addr} {l0 : List UInt8} {v : Value} {r : RdS} (hv : RefV A0 l0 v r.l r.bad) (hs : r.s.wf) (hk : r.s.kind = 5) (hl : r.l.length ≤ 9223372036854775000 ∧ r.s.route.length ≤ 9223372036854775000) (w : World) (hX : Rd w A0 l0) :
    Calls Tryz.prog 48 #[v, .agg (saidC r.s)] w fun e w' => Later w w' ∧ ∃ v', e = .returned (.tuple #[v', .agg (saidC (taken (flds 5) r).s)]) ∧ RefV A0 l0 v' (taken (flds 5) r).l (taken (flds 5) r).bad := by
  obtain ⟨D0, c0, rfl, hc, hcm, hD0⟩ := hv
  have hbx := boxSaid hs (w.alloc (.cells (rfV D0 r.l.length c0 r.bad) 104))
  have hA := ra_start hs hl w D0 c0 hc hcm hD0
  refine Calls.post fun Φ HΦ => ?_
  go_enter Tryz.func48, Tryz.ntmps48
  go_upto_region 1 with (first
    | (with_reducible refine wpList_alloc rfl 104 rfl (allocR1 _) ?_)
    | (with_reducible refine wpList_alloc rfl 29 rfl (allocSaid _) ?_)
    | fail)
  simp only [World.size_alloc] at hA ⊢
  obtain ⟨g, hg⟩ : ∃ q, q = w.heap.size := ⟨_, rfl⟩
  have HG := Lib.hid hg
  rw [← hg] at hA ⊢
  clear hbx hg
  generalize (((w.alloc (.cells (rfV D0 r.l.length c0 r.bad) 104)).alloc (.cells (saidC r.s) 29)).alloc (.cells (rfV none 0 0 false) 104)).alloc (.cells (saidC (Ms.blank 0)) 29) = W at *
  clear hD0 hc hcm
  have c00 : W.cell? ⟨g + 1, 0, none⟩ = some (.int .i64 5) := (hA.sd.cell 0).trans ((saidC_kind hA.wf).trans (by simp only [take1_kind, hk]))
  go_upto_region 27 with fail
  clear c00
  obtain ⟨D, c, hD, hF⟩ := hA.fin
  clear hA
  refine (wpIn_wide (n := 0)).1 ?_
  refine wpIn_region_chain wide_wide [.agg (rfV D (taken (flds 5) r).l.length c (taken (flds 5) r).bad), .agg (saidC (taken (flds 5) r).s), undef] [2] (FN w g D (taken (flds 5) r) c) (fun m W W' hL h => h.later hL) hF (by kernel_rfl) (by kernel_rfl) (by kernel_rfl) (by kernel_rfl) (by kernel_rfl) (by kernel_rfl) rfl (by decide) rfl ⟨?_, ?_, ?_, trivial⟩ ?_
  · exact chStep_val rfl (fun ac W m he hA => stepOk_want rfl (op_load rfl (he.keep (.tmp 2) (by kernel_rfl)) (loadR1 hA.r2) rfl))
  · exact chStep_val rfl (fun ac W m he hA => stepOk_want rfl (op_load rfl (he.keep (.tmp 3) (by kernel_rfl)) (loadSaid hA.wf hA.sd) rfl))
  · refine chStep_put (k := 0) rfl (.inl rfl) (fun ac W he hA => ⟨rfl, ?_⟩)
    obtain ⟨W', hr, hA'⟩ := FN.put hA
    exact op_storeK rfl (he.keep (.tmp 4) (by kernel_rfl)) (show ac.eval (.tmp 126) = .agg (rfV D (taken (flds 5) r).l.length c (taken (flds 5) r).bad) from he.val 0 126 (by kernel_rfl) rfl rfl) hr ⟨undef, rfl, hA'⟩
  intro xs W hA hx hkk hgt
  obtain ⟨W', hr, hlow, h4, h5, hz⟩ := FN.put2 hA
  refine last_store rfl rfl (hkk (.tmp 5) (by kernel_rfl)) ((hgt 1 127 (by decide) (by kernel_rfl)).trans (show xs 1 = .agg (saidC (taken (flds 5) r).s) from hx 1 (by decide) rfl)) hr ?_
  clear hx hkk hgt hA hF hr
  simp only [initL, lastL, putL, Nat.reduceAdd, Act.put, List.setIfInBounds_toArray, List.set_cons_succ, List.set_cons_zero]
  go_wp2_with fail
  exact bodyPost_ret (results_cc rfl _ _ (g + 2) (g + 3) 104 _ _ _ rfl rfl h4 Tryz.underlying104 rfl infoR1 (run_loadVar_row _ _ _ _ _ (0, 0) _ h5 Tryz.underlying29 rfl (by rw [hz]; exact infoSaid))) rfl (HΦ.out _ _ ⟨hlow, _, rfl, D, c, rfl, hD⟩)
set_option maxRecDepth 100000 in
set_option maxHeartbeats 4000000 in
theorem rd_rest12 {A0 : Option Addr} {l0 : List UInt8} {v : Value} {r : RdS} (hv : RefV A0 l0 v r.l r.bad) (hs : r.s.wf) (hk : r.s.kind = 12) (hl : r.l.length ≤ 9223372036854775000 ∧ r.s.route.length ≤ 9223372036854775000) (w : World) (hX : Rd w A0 l0) :
    Calls Tryz.prog 48 #[v, .agg (saidC r.s)] w fun e w' => Later w w' ∧ ∃ v', e = .returned (.tuple #[v', .agg (saidC (taken (flds 12) r).s)]) ∧ RefV A0 l0 v' (taken (flds 12) r).l (taken (flds 12) r).bad := by
  obtain ⟨D0, c0, rfl, hc, hcm, hD0⟩ := hv
  have hbx := boxSaid hs (w.alloc (.cells (rfV D0 r.l.length c0 r.bad) 104))
  have hA := ra_start hs hl w D0 c0 hc hcm hD0
  refine Calls.post fun Φ HΦ => ?_
  go_enter Tryz.func48, Tryz.ntmps48
  go_upto_region 1 with (first
    | (with_reducible refine wpList_alloc rfl 104 rfl (allocR1 _) ?_)
    | (with_reducible refine wpList_alloc rfl 29 rfl (allocSaid _) ?_)
    | fail)
  simp only [World.size_alloc] at hA ⊢
  obtain ⟨g, hg⟩ : ∃ q, q = w.heap.size := ⟨_, rfl⟩
  have HG := Lib.hid hg
  rw [← hg] at hA ⊢
  clear hbx hg
  generalize (((w.alloc (.cells (rfV D0 r.l.length c0 r.bad) 104)).alloc (.cells (saidC r.s) 29)).alloc (.cells (rfV none 0 0 false) 104)).alloc (.cells (saidC (Ms.blank 0)) 29) = W at *
  clear hD0 hc hcm
  have c00 : W.cell? ⟨g + 1, 0, none⟩ = some (.int .i64 12) := (hA.sd.cell 0).trans ((saidC_kind hA.wf).trans (by simp only [take1_kind, hk]))
  go_upto_region 27 with fail
  clear c00
  obtain ⟨D, c, hD, hF⟩ := hA.fin
  clear hA
  refine (wpIn_wide (n := 0)).1 ?_
  refine wpIn_region_chain wide_wide [.agg (rfV D (taken (flds 12) r).l.length c (taken (flds 12) r).bad), .agg (saidC (taken (flds 12) r).s), undef] [2] (FN w g D (taken (flds 12) r) c) (fun m W W' hL h => h.later hL) hF (by kernel_rfl) (by kernel_rfl) (by kernel_rfl) (by kernel_rfl) (by kernel_rfl) (by kernel_rfl) rfl (by decide) rfl ⟨?_, ?_, ?_, trivial⟩ ?_
  · exact chStep_val rfl (fun ac W m he hA => stepOk_want rfl (op_load rfl (he.keep (.tmp 2) (by kernel_rfl)) (loadR1 hA.r2) rfl))
  · exact chStep_val rfl (fun ac W m he hA => stepOk_want rfl (op_load rfl (he.keep (.tmp 3) (by kernel_rfl)) (loadSaid hA.wf hA.sd) rfl))
  · refine chStep_put (k := 0) rfl (.inl rfl) (fun ac W he hA => ⟨rfl, ?_⟩)
    obtain ⟨W', hr, hA'⟩ := FN.put hA
    exact op_storeK rfl (he.keep (.tmp 4) (by kernel_rfl)) (show ac.eval (.tmp 126) = .agg (rfV D (taken (flds 12) r).l.length c (taken (flds 12) r).bad) from he.val 0 126 (by kernel_rfl) rfl rfl) hr ⟨undef, rfl, hA'⟩
  intro xs W hA hx hkk hgt
  obtain ⟨W', hr, hlow, h4, h5, hz⟩ := FN.put2 hA
  refine last_store rfl rfl (hkk (.tmp 5) (by kernel_rfl)) ((hgt 1 127 (by decide) (by kernel_rfl)).trans (show xs 1 = .agg (saidC (taken (flds 12) r).s) from hx 1 (by decide) rfl)) hr ?_
  clear hx hkk hgt hA hF hr
  simp only [initL, lastL, putL, Nat.reduceAdd, Act.put, List.setIfInBounds_toArray, List.set_cons_succ, List.set_cons_zero]
  go_wp2_with fail
  exact bodyPost_ret (results_cc rfl _ _ (g + 2) (g + 3) 104 _ _ _ rfl rfl h4 Tryz.underlying104 rfl infoR1 (run_loadVar_row _ _ _ _ _ (0, 0) _ h5 Tryz.underlying29 rfl (by rw [hz]; exact infoSaid))) rfl (HΦ.out _ _ ⟨hlow, _, rfl, D, c, rfl, hD⟩)
end Go.Proofs.YtcajhdmppfiaeaaGreat
