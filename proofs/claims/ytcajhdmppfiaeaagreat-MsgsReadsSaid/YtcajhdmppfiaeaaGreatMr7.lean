/- Joined texts: Gl13 Gl14 Gl15 Gl16 Gl17 Gl18 Gn1 Gn2 Gn3 Gn4 Gn5 Gn6. -/
import Derived.Test.YtcajhdmppfiaeaaGreatMr6
import Derived.WalkKit
import Derived.WalkSpells
import Derived.Deep.MidRow
import Derived.Deep.WholeRow
import Derived.Deep.Draws
import Derived.Maps.AppendAt
import Derived.Lib.Hide
import Derived.OwnWalk
import Derived.Laws.IdiomStrings
import Derived.Lib.SlBytesConst
import Derived.Orders
import Derived.Shelf.Abstract
import Derived.OrdersIn
import Derived.RangeFuncCalls
import Derived.RangeFuncNested
import Derived.RangeFuncBound
import Derived.RangeFuncLeaves
import Derived.Shelf.RegionOpen
import Derived.OwnWalkIn
import Derived.TacticsInMore
import Derived.LoopNIn
import Derived.LoopIn
import Derived.WalkMore
import Derived.Test.YtcajhdmppfiaeaaGreatRows
import Derived.ProofKit
import Derived.OpenShut
import Derived.Deep.Slices
import Derived.Deep.Matrix
import Derived.WalkLawsBesides
import Derived.BigRegion
import Derived.BigQuiet
import Derived.Lib.AppendZeros
import Derived.Laws.BitsAllLaws
import Derived.IntWalk
import Derived.Laws.CopyOwn
import Derived.Outline
import Derived.Deep.RegionWith
import Derived.Deep.RegionHeld3
import Derived.Stop.BytesEq
import Derived.ShutString
import Derived.ChangeOld
import Derived.Lib.ConvBytes
import Derived.Recover
import Derived.Defers
import Derived.Deep.Cut
import Derived.Deep.DeepCutAuto
import Derived.Deep.QuietTactic
import Derived.Laws.EntriesVeiled
import Derived.StillTailTactics
import Derived.Maps.OwnOps
import Derived.Lib.QuoteBits
import Derived.Lib.AppendStr
import Derived.Deep.Grids
import Derived.Deep.Strs
import Derived.MapKept
import Derived.Laws.StructEq
import Derived.ChangeKeysEq
import Derived.Stop.Joined
set_option linter.unusedVariables false
set_option linter.unusedSimpArgs false
namespace Go.Proofs.YtcajhdmppfiaeaaGreat
open Go.RowKit Ms
theorem infoR1 : (Tryz.prog.info? 104).map (·.size) = some 2 := by kernel_rfl
theorem allocR1 (w : World) : (Instr.alloc 104 true (.tuple #[])).run Tryz.prog w = .ok (.pointer (some ⟨w.heap.size, 0, none⟩)) (w.alloc (.cells (rfV none 0 0 false) 104)) := by kernel_rfl
theorem buildR1 (A : Option Addr) (n c : Nat) (bad : Bool) (w : World) : (Instr.build 104 #[(0, .agg (rfV A n c bad))]).run Tryz.prog w = .ok (.agg (rfV A n c bad)) w := by kernel_rfl
theorem loadR1 {w : World} {g : Nat} {A : Option Addr} {n c : Nat} {bad : Bool} (hr : Row w g 104 (rfV A n c bad)) : (Instr.loadAt 104 (.pointer (some ⟨g, 0, none⟩))).run Tryz.prog w = .ok (.agg (rfV A n c bad)) w := run_load_row hr Tryz.underlying104 rfl infoR1
theorem loadR14 {w : World} {g : Nat} {A : Option Addr} {n c : Nat} {bad : Bool} (hr : Row w g 104 (rfV A n c bad)) : (Instr.loadAt 102 (.pointer (some ⟨g, 0, none⟩))).run Tryz.prog w = .ok (.agg (rfV A n c bad)) w := run_load_row hr Tryz.underlying102 rfl infoRf
theorem storeR1 {w : World} {g : Nat} {A A' : Option Addr} {n c n' c' : Nat} {bad bad' : Bool} (hr : Row w g 104 (rfV A n c bad)) : ∃ w', (Instr.storeAt 104 (.pointer (some ⟨g, 0, none⟩)) (.agg (rfV A' n' c' bad'))).run Tryz.prog w = .ok () w' ∧ Row w' g 104 (rfV A' n' c' bad') ∧ w.grownBy w' (some g) :=
  ⟨_, run_store_row hr (rfV A' n' c' bad') infoR1 (by simp) (by kernel_rfl), row_setCells [.slice A' n' c', .bool bad'] 0 w _ hr, grown_setCells _ _ _⟩
set_option maxRecDepth 100000 in
set_option maxHeartbeats 2000000 in
theorem rdNum_any {A0 : Option Addr} {l0 l : List UInt8} {v : Value} {bad : Bool} (hv : RefV A0 l0 v l bad) (most : Int) (w : World) (hX : Rd w A0 l0) (hl : l.length ≤ 9223372036854775000) :
    Calls Tryz.prog 45 #[v, .int .i64 most] w fun e w' => Later w w' ∧ ∃ v', e = .returned (.tuple #[v', .int .i64 (Wr.numR l bad most).2.1]) ∧ RefV A0 l0 v' (Wr.numR l bad most).1.1 (Wr.numR l bad most).1.2 := by
  obtain ⟨D0, c0, rfl, hc, hcm, hD0⟩ := hv
  have hrd := hD0 w hX
  have k2 := (Row.new w 104 (rfV D0 l.length c0 bad)).alloc (.cells (rfV none 0 0 false) 104)
  have k4 := Row.new (w.alloc (.cells (rfV D0 l.length c0 bad) 104)) 104 (rfV none 0 0 false)
  have hb := (((Later.refl w).alloc (.cells (rfV D0 l.length c0 bad) 104)).alloc (.cells (rfV none 0 0 false) 104))
  have HD0 := Lib.hid hD0
  clear hD0 hX
  refine Calls.post fun Φ HΦ => ?_
  go_enter Tryz.func45, Tryz.ntmps45
  go_upto_region 1 with (first
    | (with_reducible refine wpList_alloc rfl 104 rfl (allocR1 _) ?_)
    | fail)
  simp only [World.size_alloc] at k4 ⊢
  obtain ⟨q, hq⟩ : ∃ q, q = w.heap.size := ⟨_, rfl⟩
  rw [← hq] at k2 k4 ⊢
  generalize (w.alloc (.cells (rfV D0 l.length c0 bad) 104)).alloc (.cells (rfV none 0 0 false) 104) = w1 at *
  have HQ := Lib.hid hq
  clear hq
  have hld := loadR14 k2
  have hnum := refNumberR_any D0 l.length c0 l bad most w1 rfl hc hcm hl (hrd.later hb)
  obtain ⟨R, hR⟩ : ∃ R, Wr.numR l bad most = R := ⟨_, rfl⟩
  rw [hR] at hnum HΦ
  clear hR hrd hc hcm hl
  obtain ⟨⟨l', bad'⟩, x, no⟩ := R
  simp only at hnum HΦ
  generalize l.length = n at *
  go_upto_region 2 with (first
    | (refine wpList_load rfl 102 (.tmp 10) rfl (.pointer (some ⟨q, 0, none⟩)) rfl hld ?_)
    | (go_at_call 99; refine hnum.mono ?_; clear hnum; rintro e w2 ⟨hL2, v, rfl, D, c2, rfl, hcc, hcm2, hD⟩; obtain ⟨w3, hst, k63, hg3⟩ := storeRf (A' := D) (n' := l'.length) (c' := c2) (bad' := bad') (Row.new w2 102 (rfV none 0 0 false)))
    | (with_reducible refine wpList_alloc rfl 102 rfl (allocRf _) ?_)
    | (refine wpList_store rfl 102 (.tmp 6) (.tmp 14) rfl (.pointer (some ⟨w2.heap.size, 0, none⟩)) (.agg (rfV D l'.length c2 bad')) rfl rfl hst ?_)
    | fail)
  have hL23 : Later w2 w3 := ((Later.refl w2).alloc (.cells (rfV none 0 0 false) 102)).grown hg3 (by simp) (fun j e => by cases e; omega)
  have k43 := k4.later (hL2.step hL23)
  have hb3 := hb.step (hL2.step hL23)
  obtain ⟨q6, hq6⟩ : ∃ q, q = w2.heap.size := ⟨_, rfl⟩
  rw [← hq6] at k63 ⊢
  have hqw : ∀ j, some (q + 1) = some j → w.heap.size ≤ j := fun j e => by cases e; have := HQ.out; omega
  have hld6 := loadRf k63
  obtain ⟨w4, hst4, k44, hg4⟩ := storeR1 (A' := D) (n' := l'.length) (c' := c2) (bad' := bad') k43
  have hb4 := hb3.grown hg4 hb3.size hqw
  have H4 := Lib.hid hb4
  clear hst hg3 hld k2 k4 hb hL23 hL2 hq6 hg4 hb4 hb3 k43 hqw
  go_wp2_with (first
    | (refine wpList_load rfl 102 (.tmp 6) rfl (.pointer (some ⟨q6, 0, none⟩)) rfl hld6 ?_)
    | (guard_target =~ wpList _ _ _ (_ :: _) _ _; refine wpList_build rfl 104 _ rfl #[(0, .agg (rfV D l'.length c2 bad'))] (by simp only [List.map_toArray, List.map_cons, List.map_nil]; rfl) (buildR1 _ _ _ _ _) ?_)
    | (refine wpList_store rfl 104 (.tmp 4) (.tmp 18) rfl (.pointer (some ⟨q + 1, 0, none⟩)) (.agg (rfV D l'.length c2 bad')) rfl rfl hst4 ?_)
    | fail)
  exact bodyPost_ret (results_cell_tmp rfl _ _ (q + 1) 104 (rfV D l'.length c2 bad') (0, 0) _ (.int .i64 x) rfl rfl k44 Tryz.underlying104 rfl infoR1) rfl (HΦ.out _ _ ⟨H4.out, _, rfl, D, c2, rfl, hcc, hcm2, fun X h => hD X (HD0.out X h)⟩)
set_option maxRecDepth 100000 in
set_option maxHeartbeats 2000000 in
theorem rdText_any {A0 : Option Addr} {l0 l : List UInt8} {v : Value} {bad : Bool} (hv : RefV A0 l0 v l bad) (most : Int) (w : World) (hX : Rd w A0 l0) (hl : l.length ≤ 9223372036854775000) :
    Calls Tryz.prog 101 #[v, .int .i64 most] w fun e w' => Later w w' ∧ ∃ v', e = .returned (.tuple #[v', .string ⟨(Wr.textR l bad most).2.1.toArray⟩]) ∧ RefV A0 l0 v' (Wr.textR l bad most).1.1 (Wr.textR l bad most).1.2 := by
  obtain ⟨D0, c0, rfl, hc, hcm, hD0⟩ := hv
  have hrd := hD0 w hX
  have k2 := (Row.new w 104 (rfV D0 l.length c0 bad)).alloc (.cells (rfV none 0 0 false) 104)
  have k4 := Row.new (w.alloc (.cells (rfV D0 l.length c0 bad) 104)) 104 (rfV none 0 0 false)
  have hb := (((Later.refl w).alloc (.cells (rfV D0 l.length c0 bad) 104)).alloc (.cells (rfV none 0 0 false) 104))
  have HD0 := Lib.hid hD0
  clear hD0 hX
  refine Calls.post fun Φ HΦ => ?_
  go_enter Tryz.func101, Tryz.ntmps101
  go_upto_region 1 with (first
    | (with_reducible refine wpList_alloc rfl 104 rfl (allocR1 _) ?_)
    | fail)
  simp only [World.size_alloc] at k4 ⊢
  obtain ⟨q, hq⟩ : ∃ q, q = w.heap.size := ⟨_, rfl⟩
  rw [← hq] at k2 k4 ⊢
  generalize (w.alloc (.cells (rfV D0 l.length c0 bad) 104)).alloc (.cells (rfV none 0 0 false) 104) = w1 at *
  have HQ := Lib.hid hq
  clear hq
  have hld := loadR14 k2
  have hnum := refTextR_any D0 l.length c0 l bad most w1 rfl hc hcm hl (hrd.later hb)
  obtain ⟨R, hR⟩ : ∃ R, Wr.textR l bad most = R := ⟨_, rfl⟩
  rw [hR] at hnum HΦ
  clear hR hrd hc hcm hl
  obtain ⟨⟨l', bad'⟩, x, no⟩ := R
  simp only at hnum HΦ
  generalize l.length = n at *
  go_upto_region 2 with (first
    | (refine wpList_load rfl 102 (.tmp 10) rfl (.pointer (some ⟨q, 0, none⟩)) rfl hld ?_)
    | (go_at_call 132; refine hnum.mono ?_; clear hnum; rintro e w2 ⟨hL2, v, rfl, D, c2, rfl, hcc, hcm2, hD⟩; obtain ⟨w3, hst, k63, hg3⟩ := storeRf (A' := D) (n' := l'.length) (c' := c2) (bad' := bad') (Row.new w2 102 (rfV none 0 0 false)))
    | (with_reducible refine wpList_alloc rfl 102 rfl (allocRf _) ?_)
    | (refine wpList_store rfl 102 (.tmp 6) (.tmp 14) rfl (.pointer (some ⟨w2.heap.size, 0, none⟩)) (.agg (rfV D l'.length c2 bad')) rfl rfl hst ?_)
    | fail)
  have hL23 : Later w2 w3 := ((Later.refl w2).alloc (.cells (rfV none 0 0 false) 102)).grown hg3 (by simp) (fun j e => by cases e; omega)
  have k43 := k4.later (hL2.step hL23)
  have hb3 := hb.step (hL2.step hL23)
  obtain ⟨q6, hq6⟩ : ∃ q, q = w2.heap.size := ⟨_, rfl⟩
  rw [← hq6] at k63 ⊢
  have hqw : ∀ j, some (q + 1) = some j → w.heap.size ≤ j := fun j e => by cases e; have := HQ.out; omega
  have hld6 := loadRf k63
  obtain ⟨w4, hst4, k44, hg4⟩ := storeR1 (A' := D) (n' := l'.length) (c' := c2) (bad' := bad') k43
  have hb4 := hb3.grown hg4 hb3.size hqw
  have H4 := Lib.hid hb4
  clear hst hg3 hld k2 k4 hb hL23 hL2 hq6 hg4 hb4 hb3 k43 hqw
  go_wp2_with (first
    | (refine wpList_load rfl 102 (.tmp 6) rfl (.pointer (some ⟨q6, 0, none⟩)) rfl hld6 ?_)
    | (guard_target =~ wpList _ _ _ (_ :: _) _ _; refine wpList_build rfl 104 _ rfl #[(0, .agg (rfV D l'.length c2 bad'))] (by simp only [List.map_toArray, List.map_cons, List.map_nil]; rfl) (buildR1 _ _ _ _ _) ?_)
    | (refine wpList_store rfl 104 (.tmp 4) (.tmp 18) rfl (.pointer (some ⟨q + 1, 0, none⟩)) (.agg (rfV D l'.length c2 bad')) rfl rfl hst4 ?_)
    | fail)
  exact bodyPost_ret (results_cell_tmp rfl _ _ (q + 1) 104 (rfV D l'.length c2 bad') (0, 0) _ (.string ⟨x.toArray⟩) rfl rfl k44 Tryz.underlying104 rfl infoR1) rfl (HΦ.out _ _ ⟨H4.out, _, rfl, D, c2, rfl, hcc, hcm2, fun X h => hD X (HD0.out X h)⟩)
end Go.Proofs.YtcajhdmppfiaeaaGreat
namespace Go.Proofs.YtcajhdmppfiaeaaGreat
open Go.RowKit Ms
structure RA (A0 : Option Addr) (l0 : List UInt8) (w : World) (g : Nat) (r : RdS) (W : World) : Prop where
  low : Below w.heap.size w W
  at_ : w.heap.size ≤ g
  rd : ∃ D c, (r.l.length ≤ c ∧ c ≤ 9223372036854775807 ∧ ∀ X, Rd X A0 l0 → Rd X D r.l) ∧ Row W g 104 (rfV D r.l.length c r.bad)
  sd : Row W (g + 1) 29 (saidC r.s)
  wf : r.s.wf
  r4 : Row W (g + 2) 104 (rfV none 0 0 false)
  r5 : Row W (g + 3) 29 (saidC (Ms.blank 0))
  len : r.l.length ≤ 9223372036854775000 ∧ r.s.route.length ≤ 9223372036854775000
section
variable {A0 : Option Addr} {l0 : List UInt8} {w W W1 W2 W3 : World} {g : Nat} {r : RdS}
theorem RA.go (hA : RA A0 l0 w g r W) (f : Fld) {D : Option Addr} {c : Nat} (hL : Later W W1) (hD : (take1 r f).l.length ≤ c ∧ c ≤ 9223372036854775807 ∧ ∀ X, Rd X A0 l0 → Rd X D (take1 r f).l)
    (hr2 : Row W2 g 104 (rfV D (take1 r f).l.length c (take1 r f).bad)) (hg2 : W1.grownBy W2 (some g)) (hr3 : Row W3 (g + 1) 29 (saidC (take1 r f).s)) (hg3 : W2.grownBy W3 (some (g + 1))) : RA A0 l0 w g (take1 r f) W3 := by
  have n1 : ∀ k, some (g + 1 + k) ≠ some g := fun k e => by injection e with e; omega
  have n2 : ∀ k, k ≠ 1 → some (g + k) ≠ some (g + 1) := fun k hk e => by injection e with e; omega
  have hz : w.heap.size ≤ W1.heap.size := Nat.le_trans hA.low.size hL.size
  have low2 := (hA.low.trans (hL.below.mono hA.low.size)).grown hg2 hz (fun j e => by injection e with e; have := hA.at_; omega)
  refine ⟨low2.grown hg3 low2.size (fun j e => by injection e with e; have := hA.at_; omega), hA.at_, ⟨D, c, hD, hr2.grown hg3 (n2 0 (by decide))⟩, hr3, take1_wf hA.wf f, ?_, ?_, route_le r _ hA.len.1 hA.len.2 f⟩
  · exact ((hA.r4.later hL).grown hg2 (n1 1)).grown hg3 (n2 2 (by decide))
  · exact ((hA.r5.later hL).grown hg2 (n1 2)).grown hg3 (n2 3 (by decide))
theorem RA.mid (hA : RA A0 l0 w g r W) (hL : Later W W1) (hg2 : W1.grownBy W2 (some g)) : Row W2 (g + 1) 29 (saidC r.s) := (hA.sd.later hL).grown hg2 (fun e => by injection e with e; omega)
theorem ra_num (hA : RA A0 l0 w g r W) (hX : Rd w A0 l0) (j : Nat) (M : Int) (hj : j < 12) : ∃ D c, (Instr.loadAt 104 (.pointer (some ⟨g, 0, none⟩))).run Tryz.prog W = .ok (.agg (rfV D r.l.length c r.bad)) W ∧
    Calls Tryz.prog 45 #[.agg (rfV D r.l.length c r.bad), .int .i64 M] W fun e W1 => ∃ v x, e = .returned (.tuple #[v, x]) ∧ ∃ W2 W3, (Instr.storeAt 104 (.pointer (some ⟨g, 0, none⟩)) v).run Tryz.prog W1 = .ok () W2 ∧ (Instr.storeAt 2 (.pointer (some ⟨g + 1, offN j, none⟩)) x).run Tryz.prog W2 = .ok () W3 ∧ RA A0 l0 w g (take1 r (.num j M)) W3 := by
  obtain ⟨D, c, hD, kr⟩ := hA.rd
  refine ⟨D, c, loadR1 kr, (rdNum_any ⟨D, c, rfl, hD⟩ M W (hX.below hA.low) hA.len.1).mono fun e W1 ⟨hL, v, he, D2, c2, hv, hD2⟩ => ?_⟩
  subst hv
  obtain ⟨W2, h1, h2, h3⟩ := storeR1 (A' := D2) (n' := (Wr.numR r.l r.bad M).1.1.length) (c' := c2) (bad' := (Wr.numR r.l r.bad M).1.2) (kr.later hL)
  obtain ⟨h4, h5⟩ := storeSaidN hA.wf (hA.mid hL h3) j hj (Wr.numR r.l r.bad M).2.1
  exact ⟨_, _, he, W2, _, h1, h4, hA.go (.num j M) hL hD2 h2 h3 h5 (grown_set _ _ _ _)⟩
theorem ra_text (hA : RA A0 l0 w g r W) (hX : Rd w A0 l0) : ∃ D c, (Instr.loadAt 104 (.pointer (some ⟨g, 0, none⟩))).run Tryz.prog W = .ok (.agg (rfV D r.l.length c r.bad)) W ∧
    Calls Tryz.prog 101 #[.agg (rfV D r.l.length c r.bad), .int .i64 512] W fun e W1 => ∃ v x, e = .returned (.tuple #[v, x]) ∧ ∃ W2 W3, (Instr.storeAt 104 (.pointer (some ⟨g, 0, none⟩)) v).run Tryz.prog W1 = .ok () W2 ∧ (Instr.storeAt 9 (.pointer (some ⟨g + 1, 301, none⟩)) x).run Tryz.prog W2 = .ok () W3 ∧ RA A0 l0 w g (take1 r .route) W3 := by
  obtain ⟨D, c, hD, kr⟩ := hA.rd
  refine ⟨D, c, loadR1 kr, (rdText_any ⟨D, c, rfl, hD⟩ 512 W (hX.below hA.low) hA.len.1).mono fun e W1 ⟨hL, v, he, D2, c2, hv, hD2⟩ => ?_⟩
  subst hv
  obtain ⟨W2, h1, h2, h3⟩ := storeR1 (A' := D2) (n' := (Wr.textR r.l r.bad 512).1.1.length) (c' := c2) (bad' := (Wr.textR r.l r.bad 512).1.2) (kr.later hL)
  obtain ⟨h4, h5⟩ := storeSaidR hA.wf (hA.mid hL h3) (Wr.textR r.l r.bad 512).2.1
  exact ⟨_, _, he, W2, _, h1, h4, hA.go .route hL hD2 h2 h3 h5 (grown_set _ _ _ _)⟩
theorem ra_hash (HH : ∀ {A0 : Option Addr} {l0 l : List UInt8} {v : Value} {bad : Bool}, RefV A0 l0 v l bad → ∀ w : World, Rd w A0 l0 → l.length ≤ 9223372036854775000 → Calls Tryz.prog 100 #[v] w fun e w' => Later w w' ∧ ∃ v', e = .returned (.tuple #[v', .agg (hC (Wr.hashR l bad).2.1)]) ∧ RefV A0 l0 v' (Wr.hashR l bad).1.1 (Wr.hashR l bad).1.2)
    (hA : RA A0 l0 w g r W) (hX : Rd w A0 l0) (j : Nat) (hj : j < 9) : ∃ D c, (Instr.loadAt 104 (.pointer (some ⟨g, 0, none⟩))).run Tryz.prog W = .ok (.agg (rfV D r.l.length c r.bad)) W ∧
    Calls Tryz.prog 100 #[.agg (rfV D r.l.length c r.bad)] W fun e W1 => ∃ v x, e = .returned (.tuple #[v, x]) ∧ ∃ W2 W3, (Instr.storeAt 104 (.pointer (some ⟨g, 0, none⟩)) v).run Tryz.prog W1 = .ok () W2 ∧ (Instr.storeAt 24 (.pointer (some ⟨g + 1, offH j, none⟩)) x).run Tryz.prog W2 = .ok () W3 ∧ RA A0 l0 w g (take1 r (.hash j)) W3 := by
  obtain ⟨D, c, hD, kr⟩ := hA.rd
  refine ⟨D, c, loadR1 kr, (HH ⟨D, c, rfl, hD⟩ W (hX.below hA.low) hA.len.1).mono fun e W1 ⟨hL, v, he, D2, c2, hv, hD2⟩ => ?_⟩
  subst hv
  obtain ⟨W2, h1, h2, h3⟩ := storeR1 (A' := D2) (n' := (Wr.hashR r.l r.bad).1.1.length) (c' := c2) (bad' := (Wr.hashR r.l r.bad).1.2) (kr.later hL)
  obtain ⟨W3, h4, h5, h6⟩ := storeSaidH hA.wf (hA.mid hL h3) j hj (pad32 (Wr.hashR r.l r.bad).2.1) (pad32_len _)
  rw [hC_pad _ (Wr.hashR_len r.l r.bad)] at h4
  exact ⟨_, _, he, W2, W3, h1, h4, hA.go (.hash j) hL hD2 h2 h3 h5 h6⟩
end
end Go.Proofs.YtcajhdmppfiaeaaGreat
namespace Go.Proofs.YtcajhdmppfiaeaaGreat
open Go.RowKit Ms
theorem allocHz (w : World) : (Instr.alloc 24 true (.tuple #[])).run Tryz.prog w = .ok (.pointer (some ⟨w.heap.size, 0, none⟩)) (w.alloc (.cells (hC []) 24)) := by kernel_rfl
theorem storeHz {w : World} {g : Nat} {a x : List UInt8} (ha : a.length ≤ 32) (hx : x.length ≤ 32) (hr : Row w g 24 (hC a)) : ∃ w', (Instr.storeAt 24 (.pointer (some ⟨g, 0, none⟩)) (.agg (hC x))).run Tryz.prog w = .ok () w' ∧ Row w' g 24 (hC x) ∧ w.grownBy w' (some g) := by
  have h1 := hC_size a ha
  have h2 := hC_size x hx
  refine ⟨_, run_store_row hr (hC x) (by rw [h2]; exact infoH) (by rw [h1, h2]; decide) (hC_one x), ?_, grown_setCells _ _ _⟩
  have hr2 := row_setCells (hC x).toList 0 w _ hr
  rwa [setFrom_whole _ _ (by rw [Array.length_toList, h1, h2]), Array.toArray_toList] at hr2
theorem loadHy {w : World} {g : Nat} {x : List UInt8} (hx : x.length ≤ 32) (hr : Row w g 24 (hC x)) : (Instr.loadAt 24 (.pointer (some ⟨g, 0, none⟩))).run Tryz.prog w = .ok (.agg (hC x)) w :=
  run_load_row hr Tryz.underlying24 rfl (by rw [hC_size x hx]; exact infoH)
structure HN (w : World) (q q4 q5 : Nat) (D : Option Addr) (n c : Nat) (bad : Bool) (x : List UInt8) (m : Nat) (W : World) : Prop where
  low : Below w.heap.size w W
  at_ : w.heap.size ≤ q ∧ q + 2 < q4 ∧ q4 < q5
  r4 : Row W q4 102 (rfV D n c bad)
  r5 : Row W q5 24 (hC x)
  r2 : Row W (q + 1) 104 (if m = 0 then rfV none 0 0 false else rfV D n c bad)
  r3 : Row W (q + 2) 24 (hC [])
theorem HN.later {w W W' : World} {q q4 q5 : Nat} {D : Option Addr} {n c : Nat} {bad : Bool} {x : List UInt8} {m : Nat} (h : HN w q q4 q5 D n c bad x m W) (hL : Later W W') : HN w q q4 q5 D n c bad x m W' :=
  ⟨h.low.trans (hL.below.mono h.low.size), h.at_, h.r4.later hL, h.r5.later hL, h.r2.later hL, h.r3.later hL⟩
theorem HN.put {w W : World} {q q4 q5 : Nat} {D : Option Addr} {n c : Nat} {bad : Bool} {x : List UInt8} (h : HN w q q4 q5 D n c bad x 0 W) : ∃ W', (Instr.storeAt 104 (.pointer (some ⟨q + 1, 0, none⟩)) (.agg (rfV D n c bad))).run Tryz.prog W = .ok () W' ∧ HN w q q4 q5 D n c bad x 1 W' := by
  obtain ⟨a1, a2, a3⟩ := h.at_
  obtain ⟨W', h1, h2, h3⟩ := storeR1 (A' := D) (n' := n) (c' := c) (bad' := bad) h.r2
  exact ⟨W', h1, h.low.grown h3 h.low.size (fun j e => by injection e with e; omega), h.at_, h.r4.grown h3 (fun e => by injection e with e; omega), h.r5.grown h3 (fun e => by injection e with e; omega), h2, h.r3.grown h3 (fun e => by injection e with e; omega)⟩
set_option maxRecDepth 100000 in
set_option maxHeartbeats 2000000 in
theorem rdHash_any {A0 : Option Addr} {l0 l : List UInt8} {v : Value} {bad : Bool} (hv : RefV A0 l0 v l bad) (w : World) (hX : Rd w A0 l0) (hl : l.length ≤ 9223372036854775000) :
    Calls Tryz.prog 100 #[v] w fun e w' => Later w w' ∧ ∃ v', e = .returned (.tuple #[v', .agg (hC (Wr.hashR l bad).2.1)]) ∧ RefV A0 l0 v' (Wr.hashR l bad).1.1 (Wr.hashR l bad).1.2 := by
  obtain ⟨D0, c0, rfl, hc, hcm, hD0⟩ := hv
  have hrd := hD0 w hX
  have k1 := ((Row.new w 104 (rfV D0 l.length c0 bad)).alloc (.cells (rfV none 0 0 false) 104)).alloc (.cells (hC []) 24)
  have k2 := (Row.new (w.alloc (.cells (rfV D0 l.length c0 bad) 104)) 104 (rfV none 0 0 false)).alloc (.cells (hC []) 24)
  have k3 := Row.new ((w.alloc (.cells (rfV D0 l.length c0 bad) 104)).alloc (.cells (rfV none 0 0 false) 104)) 24 (hC [])
  have hb := ((((Later.refl w).alloc (.cells (rfV D0 l.length c0 bad) 104)).alloc (.cells (rfV none 0 0 false) 104)).alloc (.cells (hC []) 24))
  have HD0 := Lib.hid hD0
  clear hD0 hX
  refine Calls.post fun Φ HΦ => ?_
  go_enter Tryz.func100, Tryz.ntmps100
  go_upto_region 1 with (first
    | (with_reducible refine wpList_alloc rfl 104 rfl (allocR1 _) ?_)
    | (with_reducible refine wpList_alloc rfl 24 rfl (allocHz _) ?_)
    | fail)
  simp only [World.size_alloc] at k2 k3 ⊢
  obtain ⟨q, hq⟩ : ∃ q, q = w.heap.size := ⟨_, rfl⟩
  rw [← hq] at k1 k2 k3 ⊢
  generalize ((w.alloc (.cells (rfV D0 l.length c0 bad) 104)).alloc (.cells (rfV none 0 0 false) 104)).alloc (.cells (hC []) 24) = w1 at *
  have HQ := Lib.hid hq
  clear hq
  have hld := loadR14 k1
  have hlen := Wr.hashR_len l bad
  have hh := refHashR_any D0 l.length c0 l bad w1 rfl hc hcm (hrd.later hb)
  obtain ⟨R, hR⟩ : ∃ R, Wr.hashR l bad = R := ⟨_, rfl⟩
  rw [hR] at hh HΦ hlen
  clear hR hrd hc hcm hl
  obtain ⟨⟨l', bad'⟩, x, no⟩ := R
  simp only at hh HΦ hlen
  have hx32 : x.length ≤ 32 := by rcases hlen with h | h <;> simp [h]
  clear hlen
  have HX := Lib.hid hx32
  clear hx32
  generalize l.length = n at *
  go_upto_region 2 with (first
    | (refine wpList_load rfl 102 (.tmp 8) rfl (.pointer (some ⟨q, 0, none⟩)) rfl hld ?_)
    | (go_at_call 57; refine hh.mono ?_; clear hh; rintro e w2 ⟨hL2, v, rfl, D, c2, rfl, hcc, hcm2, hD⟩; obtain ⟨w3, hst, k43, hg3⟩ := storeRf (A' := D) (n' := l'.length) (c' := c2) (bad' := bad') ((Row.new w2 102 (rfV none 0 0 false)).alloc (.cells (hC []) 24)); obtain ⟨w4, hst4, k54, hg4⟩ := storeHz (x := x) (by decide) HX.out ((Row.new (w2.alloc (.cells (rfV none 0 0 false) 102)) 24 (hC [])).grown hg3 (fun e => by injection e with e; simp at e)))
    | (with_reducible refine wpList_alloc rfl 102 rfl (allocRf _) ?_)
    | (with_reducible refine wpList_alloc rfl 24 rfl (allocHz _) ?_)
    | (refine wpList_store rfl 102 (.tmp 4) (.tmp 11) rfl (.pointer (some ⟨w2.heap.size, 0, none⟩)) (.agg (rfV D l'.length c2 bad')) rfl rfl hst ?_)
    | (refine wpList_store rfl 24 (.tmp 5) (.tmp 12) rfl (.pointer (some ⟨(w2.alloc (.cells (rfV none 0 0 false) 102)).heap.size, 0, none⟩)) (.agg (hC x)) rfl rfl hst4 ?_)
    | fail)
  simp only [World.size_alloc] at hst4 k54 hg4 ⊢
  have hL24 : Later w2 w4 := ((((Later.refl w2).alloc (.cells (rfV none 0 0 false) 102)).alloc (.cells (hC []) 24)).grown hg3 (by simp; omega) (fun j e => by cases e; omega)).grown hg4 (by have := hg3.size; simp at this; omega) (fun j e => by cases e; omega)
  have hA0 : HN w q w2.heap.size (w2.heap.size + 1) D l'.length c2 bad' x 0 w4 := ⟨hb.step (hL2.step hL24), ⟨Nat.le_of_eq HQ.out.symm, (k3.later hL2).lt, Nat.lt_succ_self _⟩, k43.grown hg4 (fun e => by injection e with e; omega), k54, k2.later (hL2.step hL24), k3.later (hL2.step hL24)⟩
  generalize w2.heap.size = q4 at *
  generalize q4 + 1 = q5 at *
  clear hst hst4 hg3 hg4 hld k1 k2 k3 k43 k54 hb hL24 hL2
  refine (wpIn_wide (n := 0)).1 ?_
  refine wpIn_region_chain wide_wide [.agg (rfV D l'.length c2 bad'), .agg (rfV D l'.length c2 bad'), .agg (hC x), undef] [3] (HN w q q4 q5 D l'.length c2 bad' x) (fun m W W' hL h => h.later hL) hA0 (by kernel_rfl) (by kernel_rfl) (by kernel_rfl) (by kernel_rfl) (by kernel_rfl) (by kernel_rfl) rfl (by decide) rfl ⟨?_, ?_, ?_, ?_, trivial⟩ ?_
  · exact chStep_val rfl (fun ac W m he hA => stepOk_want rfl (op_load rfl (he.keep (.tmp 4) (by kernel_rfl)) (loadRf hA.r4) rfl))
  · exact chStep_val rfl (fun ac W m he hA => by
      refine stepOk_want rfl ?_
      have e0 : ac.eval (.tmp 14) = .agg (rfV D l'.length c2 bad') := he.val 0 14 (by kernel_rfl) rfl rfl
      exact op_buildR rfl (by simp only [List.map_toArray, List.map_cons, List.map_nil, e0]) (buildR1 _ _ _ _ W) rfl)
  · exact chStep_val rfl (fun ac W m he hA => stepOk_want rfl (op_load rfl (he.keep (.tmp 5) (by kernel_rfl)) (loadHy HX.out hA.r5) rfl))
  · refine chStep_put (k := 0) rfl (.inl rfl) (fun ac W he hA => ⟨rfl, ?_⟩)
    obtain ⟨W', hr, hA'⟩ := HN.put hA
    exact op_storeK rfl (he.keep (.tmp 2) (by kernel_rfl)) (show ac.eval (.tmp 15) = .agg (rfV D l'.length c2 bad') from he.val 1 15 (by kernel_rfl) rfl rfl) hr ⟨undef, rfl, hA'⟩
  intro xs W hA hx hk hgt
  have hA : HN w q q4 q5 D l'.length c2 bad' x 1 W := hA
  obtain ⟨W', hr, h7, h8⟩ := storeHz (x := x) (by decide) HX.out hA.r3
  refine last_store rfl rfl (hk (.tmp 3) (by kernel_rfl)) ((hgt 2 16 (by decide) (by kernel_rfl)).trans (show xs 2 = .agg (hC x) from hx 2 (by decide) rfl)) hr ?_
  have hlow := hA.low.grown h8 hA.low.size (fun j e => by injection e with e; have := hA.at_; omega)
  have k22 : Row W' (q + 1) 104 (rfV D l'.length c2 bad') := hA.r2.grown h8 (fun e => by injection e with e; omega)
  clear hx hk hgt hA hA0 hr h8
  simp only [initL, lastL, putL, Nat.reduceAdd, Act.put, List.setIfInBounds_toArray, List.set_cons_succ, List.set_cons_zero]
  go_wp2_with fail
  exact bodyPost_ret (results_cc rfl _ _ (q + 1) (q + 2) 104 (rfV D l'.length c2 bad') _ (.agg (hC x)) rfl rfl k22 Tryz.underlying104 rfl infoR1 (run_loadVar_row _ _ _ _ _ (0, 0) _ h7 Tryz.underlying24 rfl (by rw [hC_size x HX.out]; exact infoH))) rfl (HΦ.out _ _ ⟨hlow, _, rfl, D, c2, rfl, hcc, hcm2, fun X h => hD X (HD0.out X h)⟩)
end Go.Proofs.YtcajhdmppfiaeaaGreat
namespace Go.Proofs.YtcajhdmppfiaeaaGreat
open Go.RowKit Ms
theorem take1_kind (r : RdS) (f : Fld) : (take1 r f).s.kind = r.s.kind := by
  cases f with
  | num j m =>
    simp only [take1]
    rcases j with _ | _ | _ | _ | _ | _ | _ | _ | _ | _ | _ | _ | j <;> rfl
  | hash j =>
    simp only [take1]
    rcases j with _ | _ | _ | _ | _ | _ | _ | _ | _ | j <;> rfl
  | route => rfl
theorem ra_start {A0 : Option Addr} {l0 : List UInt8} {r : RdS} (hs : r.s.wf) (hl : r.l.length ≤ 9223372036854775000 ∧ r.s.route.length ≤ 9223372036854775000) (w : World) (D0 : Option Addr) (c0 : Nat) (hc : r.l.length ≤ c0) (hcm : c0 ≤ 9223372036854775807) (hD0 : ∀ X, Rd X A0 l0 → Rd X D0 r.l) :
    RA A0 l0 w w.heap.size r ((((w.alloc (.cells (rfV D0 r.l.length c0 r.bad) 104)).alloc (.cells (saidC r.s) 29)).alloc (.cells (rfV none 0 0 false) 104)).alloc (.cells (saidC (Ms.blank 0)) 29)) := by
  have k1 := (((Row.new w 104 (rfV D0 r.l.length c0 r.bad)).alloc (.cells (saidC r.s) 29)).alloc (.cells (rfV none 0 0 false) 104)).alloc (.cells (saidC (Ms.blank 0)) 29)
  have k2 := ((Row.new (w.alloc (.cells (rfV D0 r.l.length c0 r.bad) 104)) 29 (saidC r.s)).alloc (.cells (rfV none 0 0 false) 104)).alloc (.cells (saidC (Ms.blank 0)) 29)
  have k3 := (Row.new ((w.alloc (.cells (rfV D0 r.l.length c0 r.bad) 104)).alloc (.cells (saidC r.s) 29)) 104 (rfV none 0 0 false)).alloc (.cells (saidC (Ms.blank 0)) 29)
  have k4 := Row.new (((w.alloc (.cells (rfV D0 r.l.length c0 r.bad) 104)).alloc (.cells (saidC r.s) 29)).alloc (.cells (rfV none 0 0 false) 104)) 29 (saidC (Ms.blank 0))
  have hb := (((((Later.refl w).alloc (.cells (rfV D0 r.l.length c0 r.bad) 104)).alloc (.cells (saidC r.s) 29)).alloc (.cells (rfV none 0 0 false) 104)).alloc (.cells (saidC (Ms.blank 0)) 29))
  simp only [World.size_alloc] at k2 k3 k4
  exact ⟨hb, Nat.le_refl _, ⟨D0, c0, ⟨hc, hcm, hD0⟩, k1⟩, k2, hs, k3, k4, hl⟩
structure FN (w : World) (g : Nat) (D : Option Addr) (r : RdS) (c m : Nat) (W : World) : Prop where
  low : Below w.heap.size w W
  at_ : w.heap.size ≤ g
  r2 : Row W g 104 (rfV D r.l.length c r.bad)
  sd : Row W (g + 1) 29 (saidC r.s)
  wf : r.s.wf
  r4 : Row W (g + 2) 104 (if m = 0 then rfV none 0 0 false else rfV D r.l.length c r.bad)
  r5 : Row W (g + 3) 29 (saidC (Ms.blank 0))
section
variable {A0 : Option Addr} {l0 : List UInt8} {w W W' : World} {g c m : Nat} {D : Option Addr} {r : RdS}
theorem FN.later (h : FN w g D r c m W) (hL : Later W W') : FN w g D r c m W' := ⟨h.low.trans (hL.below.mono h.low.size), h.at_, h.r2.later hL, h.sd.later hL, h.wf, h.r4.later hL, h.r5.later hL⟩
theorem RA.fin (h : RA A0 l0 w g r W) : ∃ D c, (r.l.length ≤ c ∧ c ≤ 9223372036854775807 ∧ ∀ X, Rd X A0 l0 → Rd X D r.l) ∧ FN w g D r c 0 W := by
  obtain ⟨D, c, hD, kr⟩ := h.rd
  exact ⟨D, c, hD, h.low, h.at_, kr, h.sd, h.wf, h.r4, h.r5⟩
theorem FN.put (h : FN w g D r c 0 W) : ∃ W', (Instr.storeAt 104 (.pointer (some ⟨g + 2, 0, none⟩)) (.agg (rfV D r.l.length c r.bad))).run Tryz.prog W = .ok () W' ∧ FN w g D r c 1 W' := by
  obtain ⟨W', h1, h2, h3⟩ := storeR1 (A' := D) (n' := r.l.length) (c' := c) (bad' := r.bad) h.r4
  have n2 : ∀ k, k ≠ 2 → some (g + k) ≠ some (g + 2) := fun k hk e => by injection e with e; omega
  exact ⟨W', h1, h.low.grown h3 h.low.size (fun j e => by injection e with e; have := h.at_; omega), h.at_, h.r2.grown h3 (n2 0 (by decide)), h.sd.grown h3 (n2 1 (by decide)), h.wf, h2, h.r5.grown h3 (n2 3 (by decide))⟩
theorem FN.put2 (h : FN w g D r c 1 W) : ∃ W', (Instr.storeAt 29 (.pointer (some ⟨g + 3, 0, none⟩)) (.agg (saidC r.s))).run Tryz.prog W = .ok () W' ∧ Later w W' ∧ Row W' (g + 2) 104 (rfV D r.l.length c r.bad) ∧ Row W' (g + 3) 29 (saidC r.s) ∧ (saidC r.s).size = 302 := by
  obtain ⟨W', h1, h2, h3⟩ := storeSaid (blank_wf 0) h.wf h.r5
  exact ⟨W', h1, h.low.grown h3 h.low.size (fun j e => by injection e with e; have := h.at_; omega), h.r4.grown h3 (fun e => by injection e with e; omega), h2, saidC_size h.wf⟩
end
set_option maxRecDepth 100000 in
set_option maxHeartbeats 4000000 in
theorem rd_open1 {A0 : Option Addr} {l0 : List UInt8} {v : Value} {r : RdS} (hv : RefV A0 l0 v r.l r.bad) (hs : r.s.wf) (hk : r.s.kind = 1) (hl : r.l.length ≤ 9223372036854775000 ∧ r.s.route.length ≤ 9223372036854775000) (w : World) (hX : Rd w A0 l0) :
    Calls Tryz.prog 46 #[v, .agg (saidC r.s)] w fun e w' => Later w w' ∧ ∃ v', e = .returned (.tuple #[v', .agg (saidC (taken (flds 1) r).s)]) ∧ RefV A0 l0 v' (taken (flds 1) r).l (taken (flds 1) r).bad := by
  obtain ⟨D0, c0, rfl, hc, hcm, hD0⟩ := hv
  have hbx := boxSaid hs (w.alloc (.cells (rfV D0 r.l.length c0 r.bad) 104))
  have hA := ra_start hs hl w D0 c0 hc hcm hD0
  refine Calls.post fun Φ HΦ => ?_
  go_enter Tryz.func46, Tryz.ntmps46
  go_upto_region 1 with (first
    | (with_reducible refine wpList_alloc rfl 104 rfl (allocR1 _) ?_)
    | (with_reducible refine wpList_alloc rfl 29 rfl (allocSaid _) ?_)
    | fail)
  simp only [World.size_alloc] at hA ⊢
  obtain ⟨g, hg⟩ : ∃ q, q = w.heap.size := ⟨_, rfl⟩
  have HG := Lib.hid hg
  rw [← hg] at hA ⊢
  clear hbx hg
  generalize (((w.alloc (.cells (rfV D0 r.l.length c0 r.bad) 104)).alloc (.cells (saidC r.s) 29)).alloc (.cells (rfV none 0 0 false) 104)).alloc (.cells (saidC (Ms.blank 0)) 29) = W at *
  clear hD0 hc hcm
  obtain ⟨D, c, hld, hcl⟩ := ra_num hA hX 1 1125899906842624 (by decide)
  clear hA
  go_upto_region 2 with (first
    | (guard_target =~ wpList _ _ _ (_ :: _) _ _; refine wpList_load rfl 104 (.tmp 2) rfl (.pointer (some ⟨g, 0, none⟩)) rfl hld ?_)
    | (go_at_call 45; refine hcl.mono ?_; clear hcl; rintro e W1 ⟨v0, x0, rfl, W2, W3, h1, h2, hA⟩)
    | (guard_target =~ wpList _ _ _ (_ :: _) _ _; refine wpList_store rfl 104 (.tmp 2) (.tmp 9) rfl (.pointer (some ⟨g, 0, none⟩)) v0 rfl rfl h1 ?_)
    | (guard_target =~ wpList _ _ _ (_ :: _) _ _; refine wpList_store rfl 2 (.tmp 12) (.tmp 10) rfl (.pointer (some ⟨g + 1, offN 1, none⟩)) x0 rfl rfl h2 ?_)
    | fail)
  clear hld h1 h2
  generalize W3 = W at *
  obtain ⟨D, c, hld, hcl⟩ := ra_num hA hX 2 2147483647 (by decide)
  clear hA
  go_upto_region 3 with (first
    | (guard_target =~ wpList _ _ _ (_ :: _) _ _; refine wpList_load rfl 104 (.tmp 2) rfl (.pointer (some ⟨g, 0, none⟩)) rfl hld ?_)
    | (go_at_call 45; refine hcl.mono ?_; clear hcl; rintro e W1 ⟨v1, x1, rfl, W2, W3, h1, h2, hA⟩)
    | (guard_target =~ wpList _ _ _ (_ :: _) _ _; refine wpList_store rfl 104 (.tmp 2) (.tmp 16) rfl (.pointer (some ⟨g, 0, none⟩)) v1 rfl rfl h1 ?_)
    | (guard_target =~ wpList _ _ _ (_ :: _) _ _; refine wpList_store rfl 2 (.tmp 19) (.tmp 17) rfl (.pointer (some ⟨g + 1, offN 2, none⟩)) x1 rfl rfl h2 ?_)
    | fail)
  clear hld h1 h2
  generalize W3 = W at *
  obtain ⟨D, c, hld, hcl⟩ := ra_num hA hX 3 2147483647 (by decide)
  clear hA
  go_upto_region 4 with (first
    | (guard_target =~ wpList _ _ _ (_ :: _) _ _; refine wpList_load rfl 104 (.tmp 2) rfl (.pointer (some ⟨g, 0, none⟩)) rfl hld ?_)
    | (go_at_call 45; refine hcl.mono ?_; clear hcl; rintro e W1 ⟨v2, x2, rfl, W2, W3, h1, h2, hA⟩)
    | (guard_target =~ wpList _ _ _ (_ :: _) _ _; refine wpList_store rfl 104 (.tmp 2) (.tmp 23) rfl (.pointer (some ⟨g, 0, none⟩)) v2 rfl rfl h1 ?_)
    | (guard_target =~ wpList _ _ _ (_ :: _) _ _; refine wpList_store rfl 2 (.tmp 26) (.tmp 24) rfl (.pointer (some ⟨g + 1, offN 3, none⟩)) x2 rfl rfl h2 ?_)
    | fail)
  clear hld h1 h2
  generalize W3 = W at *
  obtain ⟨D, c, hld, hcl⟩ := ra_num hA hX 4 2147483647 (by decide)
  clear hA
  go_upto_region 5 with (first
    | (guard_target =~ wpList _ _ _ (_ :: _) _ _; refine wpList_load rfl 104 (.tmp 2) rfl (.pointer (some ⟨g, 0, none⟩)) rfl hld ?_)
    | (go_at_call 45; refine hcl.mono ?_; clear hcl; rintro e W1 ⟨v3, x3, rfl, W2, W3, h1, h2, hA⟩)
    | (guard_target =~ wpList _ _ _ (_ :: _) _ _; refine wpList_store rfl 104 (.tmp 2) (.tmp 30) rfl (.pointer (some ⟨g, 0, none⟩)) v3 rfl rfl h1 ?_)
    | (guard_target =~ wpList _ _ _ (_ :: _) _ _; refine wpList_store rfl 2 (.tmp 33) (.tmp 31) rfl (.pointer (some ⟨g + 1, offN 4, none⟩)) x3 rfl rfl h2 ?_)
    | fail)
  clear hld h1 h2
  generalize W3 = W at *
  obtain ⟨D, c, hld, hcl⟩ := ra_hash rdHash_any hA hX 1 (by decide)
  clear hA
  go_upto_region 6 with (first
    | (guard_target =~ wpList _ _ _ (_ :: _) _ _; refine wpList_load rfl 104 (.tmp 2) rfl (.pointer (some ⟨g, 0, none⟩)) rfl hld ?_)
    | (go_at_call 100; refine hcl.mono ?_; clear hcl; rintro e W1 ⟨v4, x4, rfl, W2, W3, h1, h2, hA⟩)
    | (guard_target =~ wpList _ _ _ (_ :: _) _ _; refine wpList_store rfl 104 (.tmp 2) (.tmp 37) rfl (.pointer (some ⟨g, 0, none⟩)) v4 rfl rfl h1 ?_)
    | (guard_target =~ wpList _ _ _ (_ :: _) _ _; refine wpList_store rfl 24 (.tmp 41) (.tmp 38) rfl (.pointer (some ⟨g + 1, offH 1, none⟩)) x4 rfl rfl h2 ?_)
    | fail)
  clear hld h1 h2
  generalize W3 = W at *
  obtain ⟨D, c, hld, hcl⟩ := ra_num hA hX 5 1125899906842624 (by decide)
  clear hA
  go_upto_region 7 with (first
    | (guard_target =~ wpList _ _ _ (_ :: _) _ _; refine wpList_load rfl 104 (.tmp 2) rfl (.pointer (some ⟨g, 0, none⟩)) rfl hld ?_)
    | (go_at_call 45; refine hcl.mono ?_; clear hcl; rintro e W1 ⟨v5, x5, rfl, W2, W3, h1, h2, hA⟩)
    | (guard_target =~ wpList _ _ _ (_ :: _) _ _; refine wpList_store rfl 104 (.tmp 2) (.tmp 45) rfl (.pointer (some ⟨g, 0, none⟩)) v5 rfl rfl h1 ?_)
    | (guard_target =~ wpList _ _ _ (_ :: _) _ _; refine wpList_store rfl 2 (.tmp 47) (.tmp 46) rfl (.pointer (some ⟨g + 1, offN 5, none⟩)) x5 rfl rfl h2 ?_)
    | fail)
  clear hld h1 h2
  generalize W3 = W at *
  obtain ⟨D, c, hld, hcl⟩ := ra_num hA hX 6 1125899906842624 (by decide)
  clear hA
  go_upto_region 8 with (first
    | (guard_target =~ wpList _ _ _ (_ :: _) _ _; refine wpList_load rfl 104 (.tmp 2) rfl (.pointer (some ⟨g, 0, none⟩)) rfl hld ?_)
    | (go_at_call 45; refine hcl.mono ?_; clear hcl; rintro e W1 ⟨v6, x6, rfl, W2, W3, h1, h2, hA⟩)
    | (guard_target =~ wpList _ _ _ (_ :: _) _ _; refine wpList_store rfl 104 (.tmp 2) (.tmp 51) rfl (.pointer (some ⟨g, 0, none⟩)) v6 rfl rfl h1 ?_)
    | (guard_target =~ wpList _ _ _ (_ :: _) _ _; refine wpList_store rfl 2 (.tmp 53) (.tmp 52) rfl (.pointer (some ⟨g + 1, offN 6, none⟩)) x6 rfl rfl h2 ?_)
    | fail)
  clear hld h1 h2
  generalize W3 = W at *
  obtain ⟨D, c, hld, hcl⟩ := ra_hash rdHash_any hA hX 3 (by decide)
  clear hA
  go_upto_region 9 with (first
    | (guard_target =~ wpList _ _ _ (_ :: _) _ _; refine wpList_load rfl 104 (.tmp 2) rfl (.pointer (some ⟨g, 0, none⟩)) rfl hld ?_)
    | (go_at_call 100; refine hcl.mono ?_; clear hcl; rintro e W1 ⟨v7, x7, rfl, W2, W3, h1, h2, hA⟩)
    | (guard_target =~ wpList _ _ _ (_ :: _) _ _; refine wpList_store rfl 104 (.tmp 2) (.tmp 57) rfl (.pointer (some ⟨g, 0, none⟩)) v7 rfl rfl h1 ?_)
    | (guard_target =~ wpList _ _ _ (_ :: _) _ _; refine wpList_store rfl 24 (.tmp 59) (.tmp 58) rfl (.pointer (some ⟨g + 1, offH 3, none⟩)) x7 rfl rfl h2 ?_)
    | fail)
  clear hld h1 h2
  generalize W3 = W at *
  obtain ⟨D, c, hld, hcl⟩ := ra_hash rdHash_any hA hX 4 (by decide)
  clear hA
  go_upto_region 10 with (first
    | (guard_target =~ wpList _ _ _ (_ :: _) _ _; refine wpList_load rfl 104 (.tmp 2) rfl (.pointer (some ⟨g, 0, none⟩)) rfl hld ?_)
    | (go_at_call 100; refine hcl.mono ?_; clear hcl; rintro e W1 ⟨v8, x8, rfl, W2, W3, h1, h2, hA⟩)
    | (guard_target =~ wpList _ _ _ (_ :: _) _ _; refine wpList_store rfl 104 (.tmp 2) (.tmp 63) rfl (.pointer (some ⟨g, 0, none⟩)) v8 rfl rfl h1 ?_)
    | (guard_target =~ wpList _ _ _ (_ :: _) _ _; refine wpList_store rfl 24 (.tmp 65) (.tmp 64) rfl (.pointer (some ⟨g + 1, offH 4, none⟩)) x8 rfl rfl h2 ?_)
    | fail)
  clear hld h1 h2
  generalize W3 = W at *
  obtain ⟨D, c, hD, hF⟩ := hA.fin
  clear hA
  refine (wpIn_wide (n := 0)).1 ?_
  refine wpIn_region_chain wide_wide [.agg (rfV D (taken (flds 1) r).l.length c (taken (flds 1) r).bad), .agg (saidC (taken (flds 1) r).s), undef] [2] (FN w g D (taken (flds 1) r) c) (fun m W W' hL h => h.later hL) hF (by kernel_rfl) (by kernel_rfl) (by kernel_rfl) (by kernel_rfl) (by kernel_rfl) (by kernel_rfl) rfl (by decide) rfl ⟨?_, ?_, ?_, trivial⟩ ?_
  · exact chStep_val rfl (fun ac W m he hA => stepOk_want rfl (op_load rfl (he.keep (.tmp 2) (by kernel_rfl)) (loadR1 hA.r2) rfl))
  · exact chStep_val rfl (fun ac W m he hA => stepOk_want rfl (op_load rfl (he.keep (.tmp 3) (by kernel_rfl)) (loadSaid hA.wf hA.sd) rfl))
  · refine chStep_put (k := 0) rfl (.inl rfl) (fun ac W he hA => ⟨rfl, ?_⟩)
    obtain ⟨W', hr, hA'⟩ := FN.put hA
    exact op_storeK rfl (he.keep (.tmp 4) (by kernel_rfl)) (show ac.eval (.tmp 66) = .agg (rfV D (taken (flds 1) r).l.length c (taken (flds 1) r).bad) from he.val 0 66 (by kernel_rfl) rfl rfl) hr ⟨undef, rfl, hA'⟩
  intro xs W hA hx hkk hgt
  obtain ⟨W', hr, hlow, h4, h5, hz⟩ := FN.put2 hA
  refine last_store rfl rfl (hkk (.tmp 5) (by kernel_rfl)) ((hgt 1 67 (by decide) (by kernel_rfl)).trans (show xs 1 = .agg (saidC (taken (flds 1) r).s) from hx 1 (by decide) rfl)) hr ?_
  clear hx hkk hgt hA hF hr
  simp only [initL, lastL, putL, Nat.reduceAdd, Act.put, List.setIfInBounds_toArray, List.set_cons_succ, List.set_cons_zero]
  go_wp2_with fail
  exact bodyPost_ret (results_cc rfl _ _ (g + 2) (g + 3) 104 _ _ _ rfl rfl h4 Tryz.underlying104 rfl infoR1 (run_loadVar_row _ _ _ _ _ (0, 0) _ h5 Tryz.underlying29 rfl (by rw [hz]; exact infoSaid))) rfl (HΦ.out _ _ ⟨hlow, _, rfl, D, c, rfl, hD⟩)
set_option maxRecDepth 100000 in
set_option maxHeartbeats 4000000 in
theorem rd_payment6 {A0 : Option Addr} {l0 : List UInt8} {v : Value} {r : RdS} (hv : RefV A0 l0 v r.l r.bad) (hs : r.s.wf) (hk : r.s.kind = 6) (hl : r.l.length ≤ 9223372036854775000 ∧ r.s.route.length ≤ 9223372036854775000) (w : World) (hX : Rd w A0 l0) :
    Calls Tryz.prog 47 #[v, .agg (saidC r.s)] w fun e w' => Later w w' ∧ ∃ v', e = .returned (.tuple #[v', .agg (saidC (taken (flds 6) r).s)]) ∧ RefV A0 l0 v' (taken (flds 6) r).l (taken (flds 6) r).bad := by
  obtain ⟨D0, c0, rfl, hc, hcm, hD0⟩ := hv
  have hbx := boxSaid hs (w.alloc (.cells (rfV D0 r.l.length c0 r.bad) 104))
  have hA := ra_start hs hl w D0 c0 hc hcm hD0
  refine Calls.post fun Φ HΦ => ?_
  go_enter Tryz.func47, Tryz.ntmps47
  go_upto_region 1 with (first
    | (with_reducible refine wpList_alloc rfl 104 rfl (allocR1 _) ?_)
    | (with_reducible refine wpList_alloc rfl 29 rfl (allocSaid _) ?_)
    | fail)
  simp only [World.size_alloc] at hA ⊢
  obtain ⟨g, hg⟩ : ∃ q, q = w.heap.size := ⟨_, rfl⟩
  have HG := Lib.hid hg
  rw [← hg] at hA ⊢
  clear hbx hg
  generalize (((w.alloc (.cells (rfV D0 r.l.length c0 r.bad) 104)).alloc (.cells (saidC r.s) 29)).alloc (.cells (rfV none 0 0 false) 104)).alloc (.cells (saidC (Ms.blank 0)) 29) = W at *
  clear hD0 hc hcm
  obtain ⟨D, c, hld, hcl⟩ := ra_num hA hX 7 2147483647 (by decide)
  clear hA
  go_upto_region 2 with (first
    | (guard_target =~ wpList _ _ _ (_ :: _) _ _; refine wpList_load rfl 104 (.tmp 2) rfl (.pointer (some ⟨g, 0, none⟩)) rfl hld ?_)
    | (go_at_call 45; refine hcl.mono ?_; clear hcl; rintro e W1 ⟨v0, x0, rfl, W2, W3, h1, h2, hA⟩)
    | (guard_target =~ wpList _ _ _ (_ :: _) _ _; refine wpList_store rfl 104 (.tmp 2) (.tmp 9) rfl (.pointer (some ⟨g, 0, none⟩)) v0 rfl rfl h1 ?_)
    | (guard_target =~ wpList _ _ _ (_ :: _) _ _; refine wpList_store rfl 2 (.tmp 11) (.tmp 10) rfl (.pointer (some ⟨g + 1, offN 7, none⟩)) x0 rfl rfl h2 ?_)
    | fail)
  clear hld h1 h2
  generalize W3 = W at *
  have c00 : W.cell? ⟨g + 1, 0, none⟩ = some (.int .i64 6) := (hA.sd.cell 0).trans ((saidC_kind hA.wf).trans (by simp only [take1_kind, hk]))
  go_upto_region 5 with fail
  clear c00
  obtain ⟨D, c, hld, hcl⟩ := ra_num hA hX 6 1125899906842624 (by decide)
  clear hA
  go_upto_region 6 with (first
    | (guard_target =~ wpList _ _ _ (_ :: _) _ _; refine wpList_load rfl 104 (.tmp 2) rfl (.pointer (some ⟨g, 0, none⟩)) rfl hld ?_)
    | (go_at_call 45; refine hcl.mono ?_; clear hcl; rintro e W1 ⟨v1, x1, rfl, W2, W3, h1, h2, hA⟩)
    | (guard_target =~ wpList _ _ _ (_ :: _) _ _; refine wpList_store rfl 104 (.tmp 2) (.tmp 25) rfl (.pointer (some ⟨g, 0, none⟩)) v1 rfl rfl h1 ?_)
    | (guard_target =~ wpList _ _ _ (_ :: _) _ _; refine wpList_store rfl 2 (.tmp 27) (.tmp 26) rfl (.pointer (some ⟨g + 1, offN 6, none⟩)) x1 rfl rfl h2 ?_)
    | fail)
  clear hld h1 h2
  generalize W3 = W at *
  obtain ⟨D, c, hld, hcl⟩ := ra_hash rdHash_any hA hX 6 (by decide)
  clear hA
  go_upto_region 7 with (first
    | (guard_target =~ wpList _ _ _ (_ :: _) _ _; refine wpList_load rfl 104 (.tmp 2) rfl (.pointer (some ⟨g, 0, none⟩)) rfl hld ?_)
    | (go_at_call 100; refine hcl.mono ?_; clear hcl; rintro e W1 ⟨v2, x2, rfl, W2, W3, h1, h2, hA⟩)
    | (guard_target =~ wpList _ _ _ (_ :: _) _ _; refine wpList_store rfl 104 (.tmp 2) (.tmp 31) rfl (.pointer (some ⟨g, 0, none⟩)) v2 rfl rfl h1 ?_)
    | (guard_target =~ wpList _ _ _ (_ :: _) _ _; refine wpList_store rfl 24 (.tmp 33) (.tmp 32) rfl (.pointer (some ⟨g + 1, offH 6, none⟩)) x2 rfl rfl h2 ?_)
    | fail)
  clear hld h1 h2
  generalize W3 = W at *
  obtain ⟨D, c, hld, hcl⟩ := ra_num hA hX 10 2147483647 (by decide)
  clear hA
  go_upto_region 8 with (first
    | (guard_target =~ wpList _ _ _ (_ :: _) _ _; refine wpList_load rfl 104 (.tmp 2) rfl (.pointer (some ⟨g, 0, none⟩)) rfl hld ?_)
    | (go_at_call 45; refine hcl.mono ?_; clear hcl; rintro e W1 ⟨v3, x3, rfl, W2, W3, h1, h2, hA⟩)
    | (guard_target =~ wpList _ _ _ (_ :: _) _ _; refine wpList_store rfl 104 (.tmp 2) (.tmp 37) rfl (.pointer (some ⟨g, 0, none⟩)) v3 rfl rfl h1 ?_)
    | (guard_target =~ wpList _ _ _ (_ :: _) _ _; refine wpList_store rfl 2 (.tmp 39) (.tmp 38) rfl (.pointer (some ⟨g + 1, offN 10, none⟩)) x3 rfl rfl h2 ?_)
    | fail)
  clear hld h1 h2
  generalize W3 = W at *
  obtain ⟨D, c, hld, hcl⟩ := ra_text hA hX
  clear hA
  go_upto_region 11 with (first
    | (guard_target =~ wpList _ _ _ (_ :: _) _ _; refine wpList_load rfl 104 (.tmp 2) rfl (.pointer (some ⟨g, 0, none⟩)) rfl hld ?_)
    | (go_at_call 101; refine hcl.mono ?_; clear hcl; rintro e W1 ⟨v4, x4, rfl, W2, W3, h1, h2, hA⟩)
    | (guard_target =~ wpList _ _ _ (_ :: _) _ _; refine wpList_store rfl 104 (.tmp 2) (.tmp 43) rfl (.pointer (some ⟨g, 0, none⟩)) v4 rfl rfl h1 ?_)
    | (guard_target =~ wpList _ _ _ (_ :: _) _ _; refine wpList_store rfl 9 (.tmp 45) (.tmp 44) rfl (.pointer (some ⟨g + 1, 301, none⟩)) x4 rfl rfl h2 ?_)
    | fail)
  clear hld h1 h2
  generalize W3 = W at *
  obtain ⟨D, c, hD, hF⟩ := hA.fin
  clear hA
  refine (wpIn_wide (n := 0)).1 ?_
  refine wpIn_region_chain wide_wide [.agg (rfV D (taken (flds 6) r).l.length c (taken (flds 6) r).bad), .agg (saidC (taken (flds 6) r).s), undef] [2] (FN w g D (taken (flds 6) r) c) (fun m W W' hL h => h.later hL) hF (by kernel_rfl) (by kernel_rfl) (by kernel_rfl) (by kernel_rfl) (by kernel_rfl) (by kernel_rfl) rfl (by decide) rfl ⟨?_, ?_, ?_, trivial⟩ ?_
  · exact chStep_val rfl (fun ac W m he hA => stepOk_want rfl (op_load rfl (he.keep (.tmp 2) (by kernel_rfl)) (loadR1 hA.r2) rfl))
  · exact chStep_val rfl (fun ac W m he hA => stepOk_want rfl (op_load rfl (he.keep (.tmp 3) (by kernel_rfl)) (loadSaid hA.wf hA.sd) rfl))
  · refine chStep_put (k := 0) rfl (.inl rfl) (fun ac W he hA => ⟨rfl, ?_⟩)
    obtain ⟨W', hr, hA'⟩ := FN.put hA
    exact op_storeK rfl (he.keep (.tmp 4) (by kernel_rfl)) (show ac.eval (.tmp 54) = .agg (rfV D (taken (flds 6) r).l.length c (taken (flds 6) r).bad) from he.val 0 54 (by kernel_rfl) rfl rfl) hr ⟨undef, rfl, hA'⟩
  intro xs W hA hx hkk hgt
  obtain ⟨W', hr, hlow, h4, h5, hz⟩ := FN.put2 hA
  refine last_store rfl rfl (hkk (.tmp 5) (by kernel_rfl)) ((hgt 1 55 (by decide) (by kernel_rfl)).trans (show xs 1 = .agg (saidC (taken (flds 6) r).s) from hx 1 (by decide) rfl)) hr ?_
  clear hx hkk hgt hA hF hr
  simp only [initL, lastL, putL, Nat.reduceAdd, Act.put, List.setIfInBounds_toArray, List.set_cons_succ, List.set_cons_zero]
  go_wp2_with fail
  exact bodyPost_ret (results_cc rfl _ _ (g + 2) (g + 3) 104 _ _ _ rfl rfl h4 Tryz.underlying104 rfl infoR1 (run_loadVar_row _ _ _ _ _ (0, 0) _ h5 Tryz.underlying29 rfl (by rw [hz]; exact infoSaid))) rfl (HΦ.out _ _ ⟨hlow, _, rfl, D, c, rfl, hD⟩)
set_option maxRecDepth 100000 in
set_option maxHeartbeats 4000000 in
theorem rd_payment7 {A0 : Option Addr} {l0 : List UInt8} {v : Value} {r : RdS} (hv : RefV A0 l0 v r.l r.bad) (hs : r.s.wf) (hk : r.s.kind = 7) (hl : r.l.length ≤ 9223372036854775000 ∧ r.s.route.length ≤ 9223372036854775000) (w : World) (hX : Rd w A0 l0) :
    Calls Tryz.prog 47 #[v, .agg (saidC r.s)] w fun e w' => Later w w' ∧ ∃ v', e = .returned (.tuple #[v', .agg (saidC (taken (flds 7) r).s)]) ∧ RefV A0 l0 v' (taken (flds 7) r).l (taken (flds 7) r).bad := by
  obtain ⟨D0, c0, rfl, hc, hcm, hD0⟩ := hv
  have hbx := boxSaid hs (w.alloc (.cells (rfV D0 r.l.length c0 r.bad) 104))
  have hA := ra_start hs hl w D0 c0 hc hcm hD0
  refine Calls.post fun Φ HΦ => ?_
  go_enter Tryz.func47, Tryz.ntmps47
  go_upto_region 1 with (first
    | (with_reducible refine wpList_alloc rfl 104 rfl (allocR1 _) ?_)
    | (with_reducible refine wpList_alloc rfl 29 rfl (allocSaid _) ?_)
    | fail)
  simp only [World.size_alloc] at hA ⊢
  obtain ⟨g, hg⟩ : ∃ q, q = w.heap.size := ⟨_, rfl⟩
  have HG := Lib.hid hg
  rw [← hg] at hA ⊢
  clear hbx hg
  generalize (((w.alloc (.cells (rfV D0 r.l.length c0 r.bad) 104)).alloc (.cells (saidC r.s) 29)).alloc (.cells (rfV none 0 0 false) 104)).alloc (.cells (saidC (Ms.blank 0)) 29) = W at *
  clear hD0 hc hcm
  obtain ⟨D, c, hld, hcl⟩ := ra_num hA hX 7 2147483647 (by decide)
  clear hA
  go_upto_region 2 with (first
    | (guard_target =~ wpList _ _ _ (_ :: _) _ _; refine wpList_load rfl 104 (.tmp 2) rfl (.pointer (some ⟨g, 0, none⟩)) rfl hld ?_)
    | (go_at_call 45; refine hcl.mono ?_; clear hcl; rintro e W1 ⟨v0, x0, rfl, W2, W3, h1, h2, hA⟩)
    | (guard_target =~ wpList _ _ _ (_ :: _) _ _; refine wpList_store rfl 104 (.tmp 2) (.tmp 9) rfl (.pointer (some ⟨g, 0, none⟩)) v0 rfl rfl h1 ?_)
    | (guard_target =~ wpList _ _ _ (_ :: _) _ _; refine wpList_store rfl 2 (.tmp 11) (.tmp 10) rfl (.pointer (some ⟨g + 1, offN 7, none⟩)) x0 rfl rfl h2 ?_)
    | fail)
  clear hld h1 h2
  generalize W3 = W at *
  have c00 : W.cell? ⟨g + 1, 0, none⟩ = some (.int .i64 7) := (hA.sd.cell 0).trans ((saidC_kind hA.wf).trans (by simp only [take1_kind, hk]))
  go_upto_region 10 with fail
  clear c00
  obtain ⟨D, c, hld, hcl⟩ := ra_hash rdHash_any hA hX 8 (by decide)
  clear hA
  go_upto_region 11 with (first
    | (guard_target =~ wpList _ _ _ (_ :: _) _ _; refine wpList_load rfl 104 (.tmp 2) rfl (.pointer (some ⟨g, 0, none⟩)) rfl hld ?_)
    | (go_at_call 100; refine hcl.mono ?_; clear hcl; rintro e W1 ⟨v1, x1, rfl, W2, W3, h1, h2, hA⟩)
    | (guard_target =~ wpList _ _ _ (_ :: _) _ _; refine wpList_store rfl 104 (.tmp 2) (.tmp 51) rfl (.pointer (some ⟨g, 0, none⟩)) v1 rfl rfl h1 ?_)
    | (guard_target =~ wpList _ _ _ (_ :: _) _ _; refine wpList_store rfl 24 (.tmp 53) (.tmp 52) rfl (.pointer (some ⟨g + 1, offH 8, none⟩)) x1 rfl rfl h2 ?_)
    | fail)
  clear hld h1 h2
  generalize W3 = W at *
  obtain ⟨D, c, hD, hF⟩ := hA.fin
  clear hA
  refine (wpIn_wide (n := 0)).1 ?_
  refine wpIn_region_chain wide_wide [.agg (rfV D (taken (flds 7) r).l.length c (taken (flds 7) r).bad), .agg (saidC (taken (flds 7) r).s), undef] [2] (FN w g D (taken (flds 7) r) c) (fun m W W' hL h => h.later hL) hF (by kernel_rfl) (by kernel_rfl) (by kernel_rfl) (by kernel_rfl) (by kernel_rfl) (by kernel_rfl) rfl (by decide) rfl ⟨?_, ?_, ?_, trivial⟩ ?_
  · exact chStep_val rfl (fun ac W m he hA => stepOk_want rfl (op_load rfl (he.keep (.tmp 2) (by kernel_rfl)) (loadR1 hA.r2) rfl))
  · exact chStep_val rfl (fun ac W m he hA => stepOk_want rfl (op_load rfl (he.keep (.tmp 3) (by kernel_rfl)) (loadSaid hA.wf hA.sd) rfl))
  · refine chStep_put (k := 0) rfl (.inl rfl) (fun ac W he hA => ⟨rfl, ?_⟩)
    obtain ⟨W', hr, hA'⟩ := FN.put hA
    exact op_storeK rfl (he.keep (.tmp 4) (by kernel_rfl)) (show ac.eval (.tmp 54) = .agg (rfV D (taken (flds 7) r).l.length c (taken (flds 7) r).bad) from he.val 0 54 (by kernel_rfl) rfl rfl) hr ⟨undef, rfl, hA'⟩
  intro xs W hA hx hkk hgt
  obtain ⟨W', hr, hlow, h4, h5, hz⟩ := FN.put2 hA
  refine last_store rfl rfl (hkk (.tmp 5) (by kernel_rfl)) ((hgt 1 55 (by decide) (by kernel_rfl)).trans (show xs 1 = .agg (saidC (taken (flds 7) r).s) from hx 1 (by decide) rfl)) hr ?_
  clear hx hkk hgt hA hF hr
  simp only [initL, lastL, putL, Nat.reduceAdd, Act.put, List.setIfInBounds_toArray, List.set_cons_succ, List.set_cons_zero]
  go_wp2_with fail
  exact bodyPost_ret (results_cc rfl _ _ (g + 2) (g + 3) 104 _ _ _ rfl rfl h4 Tryz.underlying104 rfl infoR1 (run_loadVar_row _ _ _ _ _ (0, 0) _ h5 Tryz.underlying29 rfl (by rw [hz]; exact infoSaid))) rfl (HΦ.out _ _ ⟨hlow, _, rfl, D, c, rfl, hD⟩)
set_option maxRecDepth 100000 in
set_option maxHeartbeats 4000000 in
theorem rd_payment8 {A0 : Option Addr} {l0 : List UInt8} {v : Value} {r : RdS} (hv : RefV A0 l0 v r.l r.bad) (hs : r.s.wf) (hk : r.s.kind = 8) (hl : r.l.length ≤ 9223372036854775000 ∧ r.s.route.length ≤ 9223372036854775000) (w : World) (hX : Rd w A0 l0) :
    Calls Tryz.prog 47 #[v, .agg (saidC r.s)] w fun e w' => Later w w' ∧ ∃ v', e = .returned (.tuple #[v', .agg (saidC (taken (flds 8) r).s)]) ∧ RefV A0 l0 v' (taken (flds 8) r).l (taken (flds 8) r).bad := by
  obtain ⟨D0, c0, rfl, hc, hcm, hD0⟩ := hv
  have hbx := boxSaid hs (w.alloc (.cells (rfV D0 r.l.length c0 r.bad) 104))
  have hA := ra_start hs hl w D0 c0 hc hcm hD0
  refine Calls.post fun Φ HΦ => ?_
  go_enter Tryz.func47, Tryz.ntmps47
  go_upto_region 1 with (first
    | (with_reducible refine wpList_alloc rfl 104 rfl (allocR1 _) ?_)
    | (with_reducible refine wpList_alloc rfl 29 rfl (allocSaid _) ?_)
    | fail)
  simp only [World.size_alloc] at hA ⊢
  obtain ⟨g, hg⟩ : ∃ q, q = w.heap.size := ⟨_, rfl⟩
  have HG := Lib.hid hg
  rw [← hg] at hA ⊢
  clear hbx hg
  generalize (((w.alloc (.cells (rfV D0 r.l.length c0 r.bad) 104)).alloc (.cells (saidC r.s) 29)).alloc (.cells (rfV none 0 0 false) 104)).alloc (.cells (saidC (Ms.blank 0)) 29) = W at *
  clear hD0 hc hcm
  obtain ⟨D, c, hld, hcl⟩ := ra_num hA hX 7 2147483647 (by decide)
  clear hA
  go_upto_region 2 with (first
    | (guard_target =~ wpList _ _ _ (_ :: _) _ _; refine wpList_load rfl 104 (.tmp 2) rfl (.pointer (some ⟨g, 0, none⟩)) rfl hld ?_)
    | (go_at_call 45; refine hcl.mono ?_; clear hcl; rintro e W1 ⟨v0, x0, rfl, W2, W3, h1, h2, hA⟩)
    | (guard_target =~ wpList _ _ _ (_ :: _) _ _; refine wpList_store rfl 104 (.tmp 2) (.tmp 9) rfl (.pointer (some ⟨g, 0, none⟩)) v0 rfl rfl h1 ?_)
    | (guard_target =~ wpList _ _ _ (_ :: _) _ _; refine wpList_store rfl 2 (.tmp 11) (.tmp 10) rfl (.pointer (some ⟨g + 1, offN 7, none⟩)) x0 rfl rfl h2 ?_)
    | fail)
  clear hld h1 h2
  generalize W3 = W at *
  have c00 : W.cell? ⟨g + 1, 0, none⟩ = some (.int .i64 8) := (hA.sd.cell 0).trans ((saidC_kind hA.wf).trans (by simp only [take1_kind, hk]))
  go_upto_region 3 with fail
  clear c00
  obtain ⟨D, c, hld, hcl⟩ := ra_num hA hX 11 2147483647 (by decide)
  clear hA
  go_upto_region 11 with (first
    | (guard_target =~ wpList _ _ _ (_ :: _) _ _; refine wpList_load rfl 104 (.tmp 2) rfl (.pointer (some ⟨g, 0, none⟩)) rfl hld ?_)
    | (go_at_call 45; refine hcl.mono ?_; clear hcl; rintro e W1 ⟨v1, x1, rfl, W2, W3, h1, h2, hA⟩)
    | (guard_target =~ wpList _ _ _ (_ :: _) _ _; refine wpList_store rfl 104 (.tmp 2) (.tmp 17) rfl (.pointer (some ⟨g, 0, none⟩)) v1 rfl rfl h1 ?_)
    | (guard_target =~ wpList _ _ _ (_ :: _) _ _; refine wpList_store rfl 2 (.tmp 19) (.tmp 18) rfl (.pointer (some ⟨g + 1, offN 11, none⟩)) x1 rfl rfl h2 ?_)
    | fail)
  clear hld h1 h2
  generalize W3 = W at *
  obtain ⟨D, c, hD, hF⟩ := hA.fin
  clear hA
  refine (wpIn_wide (n := 0)).1 ?_
  refine wpIn_region_chain wide_wide [.agg (rfV D (taken (flds 8) r).l.length c (taken (flds 8) r).bad), .agg (saidC (taken (flds 8) r).s), undef] [2] (FN w g D (taken (flds 8) r) c) (fun m W W' hL h => h.later hL) hF (by kernel_rfl) (by kernel_rfl) (by kernel_rfl) (by kernel_rfl) (by kernel_rfl) (by kernel_rfl) rfl (by decide) rfl ⟨?_, ?_, ?_, trivial⟩ ?_
  · exact chStep_val rfl (fun ac W m he hA => stepOk_want rfl (op_load rfl (he.keep (.tmp 2) (by kernel_rfl)) (loadR1 hA.r2) rfl))
  · exact chStep_val rfl (fun ac W m he hA => stepOk_want rfl (op_load rfl (he.keep (.tmp 3) (by kernel_rfl)) (loadSaid hA.wf hA.sd) rfl))
  · refine chStep_put (k := 0) rfl (.inl rfl) (fun ac W he hA => ⟨rfl, ?_⟩)
    obtain ⟨W', hr, hA'⟩ := FN.put hA
    exact op_storeK rfl (he.keep (.tmp 4) (by kernel_rfl)) (show ac.eval (.tmp 54) = .agg (rfV D (taken (flds 8) r).l.length c (taken (flds 8) r).bad) from he.val 0 54 (by kernel_rfl) rfl rfl) hr ⟨undef, rfl, hA'⟩
  intro xs W hA hx hkk hgt
  obtain ⟨W', hr, hlow, h4, h5, hz⟩ := FN.put2 hA
  refine last_store rfl rfl (hkk (.tmp 5) (by kernel_rfl)) ((hgt 1 55 (by decide) (by kernel_rfl)).trans (show xs 1 = .agg (saidC (taken (flds 8) r).s) from hx 1 (by decide) rfl)) hr ?_
  clear hx hkk hgt hA hF hr
  simp only [initL, lastL, putL, Nat.reduceAdd, Act.put, List.setIfInBounds_toArray, List.set_cons_succ, List.set_cons_zero]
  go_wp2_with fail
  exact bodyPost_ret (results_cc rfl _ _ (g + 2) (g + 3) 104 _ _ _ rfl rfl h4 Tryz.underlying104 rfl infoR1 (run_loadVar_row _ _ _ _ _ (0, 0) _ h5 Tryz.underlying29 rfl (by rw [hz]; exact infoSaid))) rfl (HΦ.out _ _ ⟨hlow, _, rfl, D, c, rfl, hD⟩)
set_option maxRecDepth 100000 in
set_option maxHeartbeats 4000000 in
theorem rd_rest2 {A0 : Option Addr} {l0 : List UInt8} {v : Value} {r : RdS} (hv : RefV A0 l0 v r.l r.bad) (hs : r.s.wf) (hk : r.s.kind = 2) (hl : r.l.length ≤ 9223372036854775000 ∧ r.s.route.length ≤ 9223372036854775000) (w : World) (hX : Rd w A0 l0) :
    Calls Tryz.prog 48 #[v, .agg (saidC r.s)] w fun e w' => Later w w' ∧ ∃ v', e = .returned (.tuple #[v', .agg (saidC (taken (flds 2) r).s)]) ∧ RefV A0 l0 v' (taken (flds 2) r).l (taken (flds 2) r).bad := by
  obtain ⟨D0, c0, rfl, hc, hcm, hD0⟩ := hv
  have hbx := boxSaid hs (w.alloc (.cells (rfV D0 r.l.length c0 r.bad) 104))
  have hA := ra_start hs hl w D0 c0 hc hcm hD0
  refine Calls.post fun Φ HΦ => ?_
  go_enter Tryz.func48, Tryz.ntmps48
  go_upto_region 1 with (first
    | (with_reducible refine wpList_alloc rfl 104 rfl (allocR1 _) ?_)
    | (with_reducible refine wpList_alloc rfl 29 rfl (allocSaid _) ?_)
    | fail)
  simp only [World.size_alloc] at hA ⊢
  obtain ⟨g, hg⟩ : ∃ q, q = w.heap.size := ⟨_, rfl⟩
  have HG := Lib.hid hg
  rw [← hg] at hA ⊢
  clear hbx hg
  generalize (((w.alloc (.cells (rfV D0 r.l.length c0 r.bad) 104)).alloc (.cells (saidC r.s) 29)).alloc (.cells (rfV none 0 0 false) 104)).alloc (.cells (saidC (Ms.blank 0)) 29) = W at *
  clear hD0 hc hcm
  have c00 : W.cell? ⟨g + 1, 0, none⟩ = some (.int .i64 2) := (hA.sd.cell 0).trans ((saidC_kind hA.wf).trans (by simp only [take1_kind, hk]))
  go_upto_region 3 with fail
  clear c00
  obtain ⟨D, c, hld, hcl⟩ := ra_hash rdHash_any hA hX 5 (by decide)
  clear hA
  go_upto_region 4 with (first
    | (guard_target =~ wpList _ _ _ (_ :: _) _ _; refine wpList_load rfl 104 (.tmp 2) rfl (.pointer (some ⟨g, 0, none⟩)) rfl hld ?_)
    | (go_at_call 100; refine hcl.mono ?_; clear hcl; rintro e W1 ⟨v0, x0, rfl, W2, W3, h1, h2, hA⟩)
    | (guard_target =~ wpList _ _ _ (_ :: _) _ _; refine wpList_store rfl 104 (.tmp 2) (.tmp 13) rfl (.pointer (some ⟨g, 0, none⟩)) v0 rfl rfl h1 ?_)
    | (guard_target =~ wpList _ _ _ (_ :: _) _ _; refine wpList_store rfl 24 (.tmp 15) (.tmp 14) rfl (.pointer (some ⟨g + 1, offH 5, none⟩)) x0 rfl rfl h2 ?_)
    | fail)
  clear hld h1 h2
  generalize W3 = W at *
  obtain ⟨D, c, hld, hcl⟩ := ra_hash rdHash_any hA hX 3 (by decide)
  clear hA
  go_upto_region 5 with (first
    | (guard_target =~ wpList _ _ _ (_ :: _) _ _; refine wpList_load rfl 104 (.tmp 2) rfl (.pointer (some ⟨g, 0, none⟩)) rfl hld ?_)
    | (go_at_call 100; refine hcl.mono ?_; clear hcl; rintro e W1 ⟨v1, x1, rfl, W2, W3, h1, h2, hA⟩)
    | (guard_target =~ wpList _ _ _ (_ :: _) _ _; refine wpList_store rfl 104 (.tmp 2) (.tmp 19) rfl (.pointer (some ⟨g, 0, none⟩)) v1 rfl rfl h1 ?_)
    | (guard_target =~ wpList _ _ _ (_ :: _) _ _; refine wpList_store rfl 24 (.tmp 21) (.tmp 20) rfl (.pointer (some ⟨g + 1, offH 3, none⟩)) x1 rfl rfl h2 ?_)
    | fail)
  clear hld h1 h2
  generalize W3 = W at *
  obtain ⟨D, c, hld, hcl⟩ := ra_hash rdHash_any hA hX 4 (by decide)
  clear hA
  go_upto_region 27 with (first
    | (guard_target =~ wpList _ _ _ (_ :: _) _ _; refine wpList_load rfl 104 (.tmp 2) rfl (.pointer (some ⟨g, 0, none⟩)) rfl hld ?_)
    | (go_at_call 100; refine hcl.mono ?_; clear hcl; rintro e W1 ⟨v2, x2, rfl, W2, W3, h1, h2, hA⟩)
    | (guard_target =~ wpList _ _ _ (_ :: _) _ _; refine wpList_store rfl 104 (.tmp 2) (.tmp 25) rfl (.pointer (some ⟨g, 0, none⟩)) v2 rfl rfl h1 ?_)
    | (guard_target =~ wpList _ _ _ (_ :: _) _ _; refine wpList_store rfl 24 (.tmp 27) (.tmp 26) rfl (.pointer (some ⟨g + 1, offH 4, none⟩)) x2 rfl rfl h2 ?_)
    | fail)
  clear hld h1 h2
  generalize W3 = W at *
  obtain ⟨D, c, hD, hF⟩ := hA.fin
  clear hA
  refine (wpIn_wide (n := 0)).1 ?_
  refine wpIn_region_chain wide_wide [.agg (rfV D (taken (flds 2) r).l.length c (taken (flds 2) r).bad), .agg (saidC (taken (flds 2) r).s), undef] [2] (FN w g D (taken (flds 2) r) c) (fun m W W' hL h => h.later hL) hF (by kernel_rfl) (by kernel_rfl) (by kernel_rfl) (by kernel_rfl) (by kernel_rfl) (by kernel_rfl) rfl (by decide) rfl ⟨?_, ?_, ?_, trivial⟩ ?_
  · exact chStep_val rfl (fun ac W m he hA => stepOk_want rfl (op_load rfl (he.keep (.tmp 2) (by kernel_rfl)) (loadR1 hA.r2) rfl))
  · exact chStep_val rfl (fun ac W m he hA => stepOk_want rfl (op_load rfl (he.keep (.tmp 3) (by kernel_rfl)) (loadSaid hA.wf hA.sd) rfl))
  · refine chStep_put (k := 0) rfl (.inl rfl) (fun ac W he hA => ⟨rfl, ?_⟩)
    obtain ⟨W', hr, hA'⟩ := FN.put hA
    exact op_storeK rfl (he.keep (.tmp 4) (by kernel_rfl)) (show ac.eval (.tmp 126) = .agg (rfV D (taken (flds 2) r).l.length c (taken (flds 2) r).bad) from he.val 0 126 (by kernel_rfl) rfl rfl) hr ⟨undef, rfl, hA'⟩
  intro xs W hA hx hkk hgt
  obtain ⟨W', hr, hlow, h4, h5, hz⟩ := FN.put2 hA
  refine last_store rfl rfl (hkk (.tmp 5) (by kernel_rfl)) ((hgt 1 127 (by decide) (by kernel_rfl)).trans (show xs 1 = .agg (saidC (taken (flds 2) r).s) from hx 1 (by decide) rfl)) hr ?_
  clear hx hkk hgt hA hF hr
  simp only [initL, lastL, putL, Nat.reduceAdd, Act.put, List.setIfInBounds_toArray, List.set_cons_succ, List.set_cons_zero]
  go_wp2_with fail
  exact bodyPost_ret (results_cc rfl _ _ (g + 2) (g + 3) 104 _ _ _ rfl rfl h4 Tryz.underlying104 rfl infoR1 (run_loadVar_row _ _ _ _ _ (0, 0) _ h5 Tryz.underlying29 rfl (by rw [hz]; exact infoSaid))) rfl (HΦ.out _ _ ⟨hlow, _, rfl, D, c, rfl, hD⟩)
set_option maxRecDepth 100000 in
set_option maxHeartbeats 4000000 in
theorem rd_rest3 {A0 : Option Addr} {l0 : List UInt8} {v : Value} {r : RdS} (hv : RefV A0 l0 v r.l r.bad) (hs : r.s.wf) (hk : r.s.kind = 3) (hl : r.l.length ≤ 9223372036854775000 ∧ r.s.route.length ≤ 9223372036854775000) (w : World) (hX : Rd w A0 l0) :
    Calls Tryz.prog 48 #[v, .agg (saidC r.s)] w fun e w' => Later w w' ∧ ∃ v', e = .returned (.tuple #[v', .agg (saidC (taken (flds 3) r).s)]) ∧ RefV A0 l0 v' (taken (flds 3) r).l (taken (flds 3) r).bad := by
  obtain ⟨D0, c0, rfl, hc, hcm, hD0⟩ := hv
  have hbx := boxSaid hs (w.alloc (.cells (rfV D0 r.l.length c0 r.bad) 104))
  have hA := ra_start hs hl w D0 c0 hc hcm hD0
  refine Calls.post fun Φ HΦ => ?_
  go_enter Tryz.func48, Tryz.ntmps48
  go_upto_region 1 with (first
    | (with_reducible refine wpList_alloc rfl 104 rfl (allocR1 _) ?_)
    | (with_reducible refine wpList_alloc rfl 29 rfl (allocSaid _) ?_)
    | fail)
  simp only [World.size_alloc] at hA ⊢
  obtain ⟨g, hg⟩ : ∃ q, q = w.heap.size := ⟨_, rfl⟩
  have HG := Lib.hid hg
  rw [← hg] at hA ⊢
  clear hbx hg
  generalize (((w.alloc (.cells (rfV D0 r.l.length c0 r.bad) 104)).alloc (.cells (saidC r.s) 29)).alloc (.cells (rfV none 0 0 false) 104)).alloc (.cells (saidC (Ms.blank 0)) 29) = W at *
  clear hD0 hc hcm
  have c00 : W.cell? ⟨g + 1, 0, none⟩ = some (.int .i64 3) := (hA.sd.cell 0).trans ((saidC_kind hA.wf).trans (by simp only [take1_kind, hk]))
  go_upto_region 7 with fail
  clear c00
  obtain ⟨D, c, hld, hcl⟩ := ra_hash rdHash_any hA hX 6 (by decide)
  clear hA
  go_upto_region 8 with (first
    | (guard_target =~ wpList _ _ _ (_ :: _) _ _; refine wpList_load rfl 104 (.tmp 2) rfl (.pointer (some ⟨g, 0, none⟩)) rfl hld ?_)
    | (go_at_call 100; refine hcl.mono ?_; clear hcl; rintro e W1 ⟨v0, x0, rfl, W2, W3, h1, h2, hA⟩)
    | (guard_target =~ wpList _ _ _ (_ :: _) _ _; refine wpList_store rfl 104 (.tmp 2) (.tmp 33) rfl (.pointer (some ⟨g, 0, none⟩)) v0 rfl rfl h1 ?_)
    | (guard_target =~ wpList _ _ _ (_ :: _) _ _; refine wpList_store rfl 24 (.tmp 35) (.tmp 34) rfl (.pointer (some ⟨g + 1, offH 6, none⟩)) x0 rfl rfl h2 ?_)
    | fail)
  clear hld h1 h2
  generalize W3 = W at *
  obtain ⟨D, c, hld, hcl⟩ := ra_num hA hX 9 2147483647 (by decide)
  clear hA
  go_upto_region 9 with (first
    | (guard_target =~ wpList _ _ _ (_ :: _) _ _; refine wpList_load rfl 104 (.tmp 2) rfl (.pointer (some ⟨g, 0, none⟩)) rfl hld ?_)
    | (go_at_call 45; refine hcl.mono ?_; clear hcl; rintro e W1 ⟨v1, x1, rfl, W2, W3, h1, h2, hA⟩)
    | (guard_target =~ wpList _ _ _ (_ :: _) _ _; refine wpList_store rfl 104 (.tmp 2) (.tmp 39) rfl (.pointer (some ⟨g, 0, none⟩)) v1 rfl rfl h1 ?_)
    | (guard_target =~ wpList _ _ _ (_ :: _) _ _; refine wpList_store rfl 2 (.tmp 41) (.tmp 40) rfl (.pointer (some ⟨g + 1, offN 9, none⟩)) x1 rfl rfl h2 ?_)
    | fail)
  clear hld h1 h2
  generalize W3 = W at *
  obtain ⟨D, c, hld, hcl⟩ := ra_hash rdHash_any hA hX 7 (by decide)
  clear hA
  go_upto_region 27 with (first
    | (guard_target =~ wpList _ _ _ (_ :: _) _ _; refine wpList_load rfl 104 (.tmp 2) rfl (.pointer (some ⟨g, 0, none⟩)) rfl hld ?_)
    | (go_at_call 100; refine hcl.mono ?_; clear hcl; rintro e W1 ⟨v2, x2, rfl, W2, W3, h1, h2, hA⟩)
    | (guard_target =~ wpList _ _ _ (_ :: _) _ _; refine wpList_store rfl 104 (.tmp 2) (.tmp 45) rfl (.pointer (some ⟨g, 0, none⟩)) v2 rfl rfl h1 ?_)
    | (guard_target =~ wpList _ _ _ (_ :: _) _ _; refine wpList_store rfl 24 (.tmp 47) (.tmp 46) rfl (.pointer (some ⟨g + 1, offH 7, none⟩)) x2 rfl rfl h2 ?_)
    | fail)
  clear hld h1 h2
  generalize W3 = W at *
  obtain ⟨D, c, hD, hF⟩ := hA.fin
  clear hA
  refine (wpIn_wide (n := 0)).1 ?_
  refine wpIn_region_chain wide_wide [.agg (rfV D (taken (flds 3) r).l.length c (taken (flds 3) r).bad), .agg (saidC (taken (flds 3) r).s), undef] [2] (FN w g D (taken (flds 3) r) c) (fun m W W' hL h => h.later hL) hF (by kernel_rfl) (by kernel_rfl) (by kernel_rfl) (by kernel_rfl) (by kernel_rfl) (by kernel_rfl) rfl (by decide) rfl ⟨?_, ?_, ?_, trivial⟩ ?_
  · exact chStep_val rfl (fun ac W m he hA => stepOk_want rfl (op_load rfl (he.keep (.tmp 2) (by kernel_rfl)) (loadR1 hA.r2) rfl))
  · exact chStep_val rfl (fun ac W m he hA => stepOk_want rfl (op_load rfl (he.keep (.tmp 3) (by kernel_rfl)) (loadSaid hA.wf hA.sd) rfl))
  · refine chStep_put (k := 0) rfl (.inl rfl) (fun ac W he hA => ⟨rfl, ?_⟩)
    obtain ⟨W', hr, hA'⟩ := FN.put hA
    exact op_storeK rfl (he.keep (.tmp 4) (by kernel_rfl)) (show ac.eval (.tmp 126) = .agg (rfV D (taken (flds 3) r).l.length c (taken (flds 3) r).bad) from he.val 0 126 (by kernel_rfl) rfl rfl) hr ⟨undef, rfl, hA'⟩
  intro xs W hA hx hkk hgt
  obtain ⟨W', hr, hlow, h4, h5, hz⟩ := FN.put2 hA
  refine last_store rfl rfl (hkk (.tmp 5) (by kernel_rfl)) ((hgt 1 127 (by decide) (by kernel_rfl)).trans (show xs 1 = .agg (saidC (taken (flds 3) r).s) from hx 1 (by decide) rfl)) hr ?_
  clear hx hkk hgt hA hF hr
  simp only [initL, lastL, putL, Nat.reduceAdd, Act.put, List.setIfInBounds_toArray, List.set_cons_succ, List.set_cons_zero]
  go_wp2_with fail
  exact bodyPost_ret (results_cc rfl _ _ (g + 2) (g + 3) 104 _ _ _ rfl rfl h4 Tryz.underlying104 rfl infoR1 (run_loadVar_row _ _ _ _ _ (0, 0) _ h5 Tryz.underlying29 rfl (by rw [hz]; exact infoSaid))) rfl (HΦ.out _ _ ⟨hlow, _, rfl, D, c, rfl, hD⟩)
set_option maxRecDepth 100000 in
set_option maxHeartbeats 4000000 in
theorem rd_rest4 {A0 : Option Addr} {l0 : List UInt8} {v : Value} {r : RdS} (hv : RefV A0 l0 v r.l r.bad) (hs : r.s.wf) (hk : r.s.kind = 4) (hl : r.l.length ≤ 9223372036854775000 ∧ r.s.route.length ≤ 9223372036854775000) (w : World) (hX : Rd w A0 l0) :
    Calls Tryz.prog 48 #[v, .agg (saidC r.s)] w fun e w' => Later w w' ∧ ∃ v', e = .returned (.tuple #[v', .agg (saidC (taken (flds 4) r).s)]) ∧ RefV A0 l0 v' (taken (flds 4) r).l (taken (flds 4) r).bad := by
  obtain ⟨D0, c0, rfl, hc, hcm, hD0⟩ := hv
  have hbx := boxSaid hs (w.alloc (.cells (rfV D0 r.l.length c0 r.bad) 104))
  have hA := ra_start hs hl w D0 c0 hc hcm hD0
  refine Calls.post fun Φ HΦ => ?_
  go_enter Tryz.func48, Tryz.ntmps48
  go_upto_region 1 with (first
    | (with_reducible refine wpList_alloc rfl 104 rfl (allocR1 _) ?_)
    | (with_reducible refine wpList_alloc rfl 29 rfl (allocSaid _) ?_)
    | fail)
  simp only [World.size_alloc] at hA ⊢
  obtain ⟨g, hg⟩ : ∃ q, q = w.heap.size := ⟨_, rfl⟩
  have HG := Lib.hid hg
  rw [← hg] at hA ⊢
  clear hbx hg
  generalize (((w.alloc (.cells (rfV D0 r.l.length c0 r.bad) 104)).alloc (.cells (saidC r.s) 29)).alloc (.cells (rfV none 0 0 false) 104)).alloc (.cells (saidC (Ms.blank 0)) 29) = W at *
  clear hD0 hc hcm
  have c00 : W.cell? ⟨g + 1, 0, none⟩ = some (.int .i64 4) := (hA.sd.cell 0).trans ((saidC_kind hA.wf).trans (by simp only [take1_kind, hk]))
  go_upto_region 11 with fail
  clear c00
  obtain ⟨D, c, hld, hcl⟩ := ra_hash rdHash_any hA hX 7 (by decide)
  clear hA
  go_upto_region 27 with (first
    | (guard_target =~ wpList _ _ _ (_ :: _) _ _; refine wpList_load rfl 104 (.tmp 2) rfl (.pointer (some ⟨g, 0, none⟩)) rfl hld ?_)
    | (go_at_call 100; refine hcl.mono ?_; clear hcl; rintro e W1 ⟨v0, x0, rfl, W2, W3, h1, h2, hA⟩)
    | (guard_target =~ wpList _ _ _ (_ :: _) _ _; refine wpList_store rfl 104 (.tmp 2) (.tmp 53) rfl (.pointer (some ⟨g, 0, none⟩)) v0 rfl rfl h1 ?_)
    | (guard_target =~ wpList _ _ _ (_ :: _) _ _; refine wpList_store rfl 24 (.tmp 55) (.tmp 54) rfl (.pointer (some ⟨g + 1, offH 7, none⟩)) x0 rfl rfl h2 ?_)
    | fail)
  clear hld h1 h2
  generalize W3 = W at *
  obtain ⟨D, c, hD, hF⟩ := hA.fin
  clear hA
  refine (wpIn_wide (n := 0)).1 ?_
  refine wpIn_region_chain wide_wide [.agg (rfV D (taken (flds 4) r).l.length c (taken (flds 4) r).bad), .agg (saidC (taken (flds 4) r).s), undef] [2] (FN w g D (taken (flds 4) r) c) (fun m W W' hL h => h.later hL) hF (by kernel_rfl) (by kernel_rfl) (by kernel_rfl) (by kernel_rfl) (by kernel_rfl) (by kernel_rfl) rfl (by decide) rfl ⟨?_, ?_, ?_, trivial⟩ ?_
  · exact chStep_val rfl (fun ac W m he hA => stepOk_want rfl (op_load rfl (he.keep (.tmp 2) (by kernel_rfl)) (loadR1 hA.r2) rfl))
  · exact chStep_val rfl (fun ac W m he hA => stepOk_want rfl (op_load rfl (he.keep (.tmp 3) (by kernel_rfl)) (loadSaid hA.wf hA.sd) rfl))
  · refine chStep_put (k := 0) rfl (.inl rfl) (fun ac W he hA => ⟨rfl, ?_⟩)
    obtain ⟨W', hr, hA'⟩ := FN.put hA
    exact op_storeK rfl (he.keep (.tmp 4) (by kernel_rfl)) (show ac.eval (.tmp 126) = .agg (rfV D (taken (flds 4) r).l.length c (taken (flds 4) r).bad) from he.val 0 126 (by kernel_rfl) rfl rfl) hr ⟨undef, rfl, hA'⟩
  intro xs W hA hx hkk hgt
  obtain ⟨W', hr, hlow, h4, h5, hz⟩ := FN.put2 hA
  refine last_store rfl rfl (hkk (.tmp 5) (by kernel_rfl)) ((hgt 1 127 (by decide) (by kernel_rfl)).trans (show xs 1 = .agg (saidC (taken (flds 4) r).s) from hx 1 (by decide) rfl)) hr ?_
  clear hx hkk hgt hA hF hr
  simp only [initL, lastL, putL, Nat.reduceAdd, Act.put, List.setIfInBounds_toArray, List.set_cons_succ, List.set_cons_zero]
  go_wp2_with fail
  exact bodyPost_ret (results_cc rfl _ _ (g + 2) (g + 3) 104 _ _ _ rfl rfl h4 Tryz.underlying104 rfl infoR1 (run_loadVar_row _ _ _ _ _ (0, 0) _ h5 Tryz.underlying29 rfl (by rw [hz]; exact infoSaid))) rfl (HΦ.out _ _ ⟨hlow, _, rfl, D, c, rfl, hD⟩)
set_option maxRecDepth 100000 in
set_option maxHeartbeats 4000000 in
theorem rd_rest9 {A0 : Option Addr} {l0 : List UInt8} {v : Value} {r : RdS} (hv : RefV A0 l0 v r.l r.bad) (hs : r.s.wf) (hk : r.s.kind = 9) (hl : r.l.length ≤ 9223372036854775000 ∧ r.s.route.length ≤ 9223372036854775000) (w : World) (hX : Rd w A0 l0) :
    Calls Tryz.prog 48 #[v, .agg (saidC r.s)] w fun e w' => Later w w' ∧ ∃ v', e = .returned (.tuple #[v', .agg (saidC (taken (flds 9) r).s)]) ∧ RefV A0 l0 v' (taken (flds 9) r).l (taken (flds 9) r).bad := by
  obtain ⟨D0, c0, rfl, hc, hcm, hD0⟩ := hv
  have hbx := boxSaid hs (w.alloc (.cells (rfV D0 r.l.length c0 r.bad) 104))
  have hA := ra_start hs hl w D0 c0 hc hcm hD0
  refine Calls.post fun Φ HΦ => ?_
  go_enter Tryz.func48, Tryz.ntmps48
  go_upto_region 1 with (first
    | (with_reducible refine wpList_alloc rfl 104 rfl (allocR1 _) ?_)
    | (with_reducible refine wpList_alloc rfl 29 rfl (allocSaid _) ?_)
    | fail)
  simp only [World.size_alloc] at hA ⊢
  obtain ⟨g, hg⟩ : ∃ q, q = w.heap.size := ⟨_, rfl⟩
  have HG := Lib.hid hg
  rw [← hg] at hA ⊢
  clear hbx hg
  generalize (((w.alloc (.cells (rfV D0 r.l.length c0 r.bad) 104)).alloc (.cells (saidC r.s) 29)).alloc (.cells (rfV none 0 0 false) 104)).alloc (.cells (saidC (Ms.blank 0)) 29) = W at *
  clear hD0 hc hcm
  have c00 : W.cell? ⟨g + 1, 0, none⟩ = some (.int .i64 9) := (hA.sd.cell 0).trans ((saidC_kind hA.wf).trans (by simp only [take1_kind, hk]))
  go_upto_region 13 with fail
  clear c00
  obtain ⟨D, c, hld, hcl⟩ := ra_num hA hX 8 2147483647 (by decide)
  clear hA
  go_upto_region 14 with (first
    | (guard_target =~ wpList _ _ _ (_ :: _) _ _; refine wpList_load rfl 104 (.tmp 2) rfl (.pointer (some ⟨g, 0, none⟩)) rfl hld ?_)
    | (go_at_call 45; refine hcl.mono ?_; clear hcl; rintro e W1 ⟨v0, x0, rfl, W2, W3, h1, h2, hA⟩)
    | (guard_target =~ wpList _ _ _ (_ :: _) _ _; refine wpList_store rfl 104 (.tmp 2) (.tmp 61) rfl (.pointer (some ⟨g, 0, none⟩)) v0 rfl rfl h1 ?_)
    | (guard_target =~ wpList _ _ _ (_ :: _) _ _; refine wpList_store rfl 2 (.tmp 63) (.tmp 62) rfl (.pointer (some ⟨g + 1, offN 8, none⟩)) x0 rfl rfl h2 ?_)
    | fail)
  clear hld h1 h2
  generalize W3 = W at *
  obtain ⟨D, c, hld, hcl⟩ := ra_hash rdHash_any hA hX 7 (by decide)
  clear hA
  go_upto_region 27 with (first
    | (guard_target =~ wpList _ _ _ (_ :: _) _ _; refine wpList_load rfl 104 (.tmp 2) rfl (.pointer (some ⟨g, 0, none⟩)) rfl hld ?_)
    | (go_at_call 100; refine hcl.mono ?_; clear hcl; rintro e W1 ⟨v1, x1, rfl, W2, W3, h1, h2, hA⟩)
    | (guard_target =~ wpList _ _ _ (_ :: _) _ _; refine wpList_store rfl 104 (.tmp 2) (.tmp 67) rfl (.pointer (some ⟨g, 0, none⟩)) v1 rfl rfl h1 ?_)
    | (guard_target =~ wpList _ _ _ (_ :: _) _ _; refine wpList_store rfl 24 (.tmp 69) (.tmp 68) rfl (.pointer (some ⟨g + 1, offH 7, none⟩)) x1 rfl rfl h2 ?_)
    | fail)
  clear hld h1 h2
  generalize W3 = W at *
  obtain ⟨D, c, hD, hF⟩ := hA.fin
  clear hA
  refine (wpIn_wide (n := 0)).1 ?_
  refine wpIn_region_chain wide_wide [.agg (rfV D (taken (flds 9) r).l.length c (taken (flds 9) r).bad), .agg (saidC (taken (flds 9) r).s), undef] [2] (FN w g D (taken (flds 9) r) c) (fun m W W' hL h => h.later hL) hF (by kernel_rfl) (by kernel_rfl) (by kernel_rfl) (by kernel_rfl) (by kernel_rfl) (by kernel_rfl) rfl (by decide) rfl ⟨?_, ?_, ?_, trivial⟩ ?_
  · exact chStep_val rfl (fun ac W m he hA => stepOk_want rfl (op_load rfl (he.keep (.tmp 2) (by kernel_rfl)) (loadR1 hA.r2) rfl))
  · exact chStep_val rfl (fun ac W m he hA => stepOk_want rfl (op_load rfl (he.keep (.tmp 3) (by kernel_rfl)) (loadSaid hA.wf hA.sd) rfl))
  · refine chStep_put (k := 0) rfl (.inl rfl) (fun ac W he hA => ⟨rfl, ?_⟩)
    obtain ⟨W', hr, hA'⟩ := FN.put hA
    exact op_storeK rfl (he.keep (.tmp 4) (by kernel_rfl)) (show ac.eval (.tmp 126) = .agg (rfV D (taken (flds 9) r).l.length c (taken (flds 9) r).bad) from he.val 0 126 (by kernel_rfl) rfl rfl) hr ⟨undef, rfl, hA'⟩
  intro xs W hA hx hkk hgt
  obtain ⟨W', hr, hlow, h4, h5, hz⟩ := FN.put2 hA
  refine last_store rfl rfl (hkk (.tmp 5) (by kernel_rfl)) ((hgt 1 127 (by decide) (by kernel_rfl)).trans (show xs 1 = .agg (saidC (taken (flds 9) r).s) from hx 1 (by decide) rfl)) hr ?_
  clear hx hkk hgt hA hF hr
  simp only [initL, lastL, putL, Nat.reduceAdd, Act.put, List.setIfInBounds_toArray, List.set_cons_succ, List.set_cons_zero]
  go_wp2_with fail
  exact bodyPost_ret (results_cc rfl _ _ (g + 2) (g + 3) 104 _ _ _ rfl rfl h4 Tryz.underlying104 rfl infoR1 (run_loadVar_row _ _ _ _ _ (0, 0) _ h5 Tryz.underlying29 rfl (by rw [hz]; exact infoSaid))) rfl (HΦ.out _ _ ⟨hlow, _, rfl, D, c, rfl, hD⟩)
set_option maxRecDepth 100000 in
set_option maxHeartbeats 4000000 in
theorem rd_rest10 {A0 : Option Addr} {l0 : List UInt8} {v : Value} {r : RdS} (hv : RefV A0 l0 v r.l r.bad) (hs : r.s.wf) (hk : r.s.kind = 10) (hl : r.l.length ≤ 9223372036854775000 ∧ r.s.route.length ≤ 9223372036854775000) (w : World) (hX : Rd w A0 l0) :
    Calls Tryz.prog 48 #[v, .agg (saidC r.s)] w fun e w' => Later w w' ∧ ∃ v', e = .returned (.tuple #[v', .agg (saidC (taken (flds 10) r).s)]) ∧ RefV A0 l0 v' (taken (flds 10) r).l (taken (flds 10) r).bad := by
  obtain ⟨D0, c0, rfl, hc, hcm, hD0⟩ := hv
  have hbx := boxSaid hs (w.alloc (.cells (rfV D0 r.l.length c0 r.bad) 104))
  have hA := ra_start hs hl w D0 c0 hc hcm hD0
  refine Calls.post fun Φ HΦ => ?_
  go_enter Tryz.func48, Tryz.ntmps48
  go_upto_region 1 with (first
    | (with_reducible refine wpList_alloc rfl 104 rfl (allocR1 _) ?_)
    | (with_reducible refine wpList_alloc rfl 29 rfl (allocSaid _) ?_)
    | fail)
  simp only [World.size_alloc] at hA ⊢
  obtain ⟨g, hg⟩ : ∃ q, q = w.heap.size := ⟨_, rfl⟩
  have HG := Lib.hid hg
  rw [← hg] at hA ⊢
  clear hbx hg
  generalize (((w.alloc (.cells (rfV D0 r.l.length c0 r.bad) 104)).alloc (.cells (saidC r.s) 29)).alloc (.cells (rfV none 0 0 false) 104)).alloc (.cells (saidC (Ms.blank 0)) 29) = W at *
  clear hD0 hc hcm
  have c00 : W.cell? ⟨g + 1, 0, none⟩ = some (.int .i64 10) := (hA.sd.cell 0).trans ((saidC_kind hA.wf).trans (by simp only [take1_kind, hk]))
  go_upto_region 16 with fail
  clear c00
  obtain ⟨D, c, hld, hcl⟩ := ra_num hA hX 8 2147483647 (by decide)
  clear hA
  go_upto_region 17 with (first
    | (guard_target =~ wpList _ _ _ (_ :: _) _ _; refine wpList_load rfl 104 (.tmp 2) rfl (.pointer (some ⟨g, 0, none⟩)) rfl hld ?_)
    | (go_at_call 45; refine hcl.mono ?_; clear hcl; rintro e W1 ⟨v0, x0, rfl, W2, W3, h1, h2, hA⟩)
    | (guard_target =~ wpList _ _ _ (_ :: _) _ _; refine wpList_store rfl 104 (.tmp 2) (.tmp 75) rfl (.pointer (some ⟨g, 0, none⟩)) v0 rfl rfl h1 ?_)
    | (guard_target =~ wpList _ _ _ (_ :: _) _ _; refine wpList_store rfl 2 (.tmp 77) (.tmp 76) rfl (.pointer (some ⟨g + 1, offN 8, none⟩)) x0 rfl rfl h2 ?_)
    | fail)
  clear hld h1 h2
  generalize W3 = W at *
  obtain ⟨D, c, hld, hcl⟩ := ra_hash rdHash_any hA hX 8 (by decide)
  clear hA
  go_upto_region 18 with (first
    | (guard_target =~ wpList _ _ _ (_ :: _) _ _; refine wpList_load rfl 104 (.tmp 2) rfl (.pointer (some ⟨g, 0, none⟩)) rfl hld ?_)
    | (go_at_call 100; refine hcl.mono ?_; clear hcl; rintro e W1 ⟨v1, x1, rfl, W2, W3, h1, h2, hA⟩)
    | (guard_target =~ wpList _ _ _ (_ :: _) _ _; refine wpList_store rfl 104 (.tmp 2) (.tmp 81) rfl (.pointer (some ⟨g, 0, none⟩)) v1 rfl rfl h1 ?_)
    | (guard_target =~ wpList _ _ _ (_ :: _) _ _; refine wpList_store rfl 24 (.tmp 83) (.tmp 82) rfl (.pointer (some ⟨g + 1, offH 8, none⟩)) x1 rfl rfl h2 ?_)
    | fail)
  clear hld h1 h2
  generalize W3 = W at *
  obtain ⟨D, c, hld, hcl⟩ := ra_hash rdHash_any hA hX 4 (by decide)
  clear hA
  go_upto_region 27 with (first
    | (guard_target =~ wpList _ _ _ (_ :: _) _ _; refine wpList_load rfl 104 (.tmp 2) rfl (.pointer (some ⟨g, 0, none⟩)) rfl hld ?_)
    | (go_at_call 100; refine hcl.mono ?_; clear hcl; rintro e W1 ⟨v2, x2, rfl, W2, W3, h1, h2, hA⟩)
    | (guard_target =~ wpList _ _ _ (_ :: _) _ _; refine wpList_store rfl 104 (.tmp 2) (.tmp 87) rfl (.pointer (some ⟨g, 0, none⟩)) v2 rfl rfl h1 ?_)
    | (guard_target =~ wpList _ _ _ (_ :: _) _ _; refine wpList_store rfl 24 (.tmp 89) (.tmp 88) rfl (.pointer (some ⟨g + 1, offH 4, none⟩)) x2 rfl rfl h2 ?_)
    | fail)
  clear hld h1 h2
  generalize W3 = W at *
  obtain ⟨D, c, hD, hF⟩ := hA.fin
  clear hA
  refine (wpIn_wide (n := 0)).1 ?_
  refine wpIn_region_chain wide_wide [.agg (rfV D (taken (flds 10) r).l.length c (taken (flds 10) r).bad), .agg (saidC (taken (flds 10) r).s), undef] [2] (FN w g D (taken (flds 10) r) c) (fun m W W' hL h => h.later hL) hF (by kernel_rfl) (by kernel_rfl) (by kernel_rfl) (by kernel_rfl) (by kernel_rfl) (by kernel_rfl) rfl (by decide) rfl ⟨?_, ?_, ?_, trivial⟩ ?_
  · exact chStep_val rfl (fun ac W m he hA => stepOk_want rfl (op_load rfl (he.keep (.tmp 2) (by kernel_rfl)) (loadR1 hA.r2) rfl))
  · exact chStep_val rfl (fun ac W m he hA => stepOk_want rfl (op_load rfl (he.keep (.tmp 3) (by kernel_rfl)) (loadSaid hA.wf hA.sd) rfl))
  · refine chStep_put (k := 0) rfl (.inl rfl) (fun ac W he hA => ⟨rfl, ?_⟩)
    obtain ⟨W', hr, hA'⟩ := FN.put hA
    exact op_storeK rfl (he.keep (.tmp 4) (by kernel_rfl)) (show ac.eval (.tmp 126) = .agg (rfV D (taken (flds 10) r).l.length c (taken (flds 10) r).bad) from he.val 0 126 (by kernel_rfl) rfl rfl) hr ⟨undef, rfl, hA'⟩
  intro xs W hA hx hkk hgt
  obtain ⟨W', hr, hlow, h4, h5, hz⟩ := FN.put2 hA
  refine last_store rfl rfl (hkk (.tmp 5) (by kernel_rfl)) ((hgt 1 127 (by decide) (by kernel_rfl)).trans (show xs 1 = .agg (saidC (taken (flds 10) r).s) from hx 1 (by decide) rfl)) hr ?_
  clear hx hkk hgt hA hF hr
  simp only [initL, lastL, putL, Nat.reduceAdd, Act.put, List.setIfInBounds_toArray, List.set_cons_succ, List.set_cons_zero]
  go_wp2_with fail
  exact bodyPost_ret (results_cc rfl _ _ (g + 2) (g + 3) 104 _ _ _ rfl rfl h4 Tryz.underlying104 rfl infoR1 (run_loadVar_row _ _ _ _ _ (0, 0) _ h5 Tryz.underlying29 rfl (by rw [hz]; exact infoSaid))) rfl (HΦ.out _ _ ⟨hlow, _, rfl, D, c, rfl, hD⟩)
set_option maxRecDepth 100000 in
set_option maxHeartbeats 4000000 in
theorem rd_rest11 {A0 : Option Addr} {l0 : List UInt8} {v : Value} {r : RdS} (hv : RefV A0 l0 v r.l r.bad) (hs : r.s.wf) (hk : r.s.kind = 11) (hl : r.l.length ≤ 9223372036854775000 ∧ r.s.route.length ≤ 9223372036854775000) (w : World) (hX : Rd w A0 l0) :
    Calls Tryz.prog 48 #[v, .agg (saidC r.s)] w fun e w' => Later w w' ∧ ∃ v', e = .returned (.tuple #[v', .agg (saidC (taken (flds 11) r).s)]) ∧ RefV A0 l0 v' (taken (flds 11) r).l (taken (flds 11) r).bad := by
  obtain ⟨D0, c0, rfl, hc, hcm, hD0⟩ := hv
  have hbx := boxSaid hs (w.alloc (.cells (rfV D0 r.l.length c0 r.bad) 104))
  have hA := ra_start hs hl w D0 c0 hc hcm hD0
  refine Calls.post fun Φ HΦ => ?_
  go_enter Tryz.func48, Tryz.ntmps48
  go_upto_region 1 with (first
    | (with_reducible refine wpList_alloc rfl 104 rfl (allocR1 _) ?_)
    | (with_reducible refine wpList_alloc rfl 29 rfl (allocSaid _) ?_)
    | fail)
  simp only [World.size_alloc] at hA ⊢
  obtain ⟨g, hg⟩ : ∃ q, q = w.heap.size := ⟨_, rfl⟩
  have HG := Lib.hid hg
  rw [← hg] at hA ⊢
  clear hbx hg
  generalize (((w.alloc (.cells (rfV D0 r.l.length c0 r.bad) 104)).alloc (.cells (saidC r.s) 29)).alloc (.cells (rfV none 0 0 false) 104)).alloc (.cells (saidC (Ms.blank 0)) 29) = W at *
  clear hD0 hc hcm
  have c00 : W.cell? ⟨g + 1, 0, none⟩ = some (.int .i64 11) := (hA.sd.cell 0).trans ((saidC_kind hA.wf).trans (by simp only [take1_kind, hk]))
  go_upto_region 20 with fail
  clear c00
  obtain ⟨D, c, hld, hcl⟩ := ra_num hA hX 8 2147483647 (by decide)
  clear hA
  go_upto_region 21 with (first
    | (guard_target =~ wpList _ _ _ (_ :: _) _ _; refine wpList_load rfl 104 (.tmp 2) rfl (.pointer (some ⟨g, 0, none⟩)) rfl hld ?_)
    | (go_at_call 45; refine hcl.mono ?_; clear hcl; rintro e W1 ⟨v0, x0, rfl, W2, W3, h1, h2, hA⟩)
    | (guard_target =~ wpList _ _ _ (_ :: _) _ _; refine wpList_store rfl 104 (.tmp 2) (.tmp 95) rfl (.pointer (some ⟨g, 0, none⟩)) v0 rfl rfl h1 ?_)
    | (guard_target =~ wpList _ _ _ (_ :: _) _ _; refine wpList_store rfl 2 (.tmp 97) (.tmp 96) rfl (.pointer (some ⟨g + 1, offN 8, none⟩)) x0 rfl rfl h2 ?_)
    | fail)
  clear hld h1 h2
  generalize W3 = W at *
  obtain ⟨D, c, hld, hcl⟩ := ra_num hA hX 7 2147483647 (by decide)
  clear hA
  go_upto_region 27 with (first
    | (guard_target =~ wpList _ _ _ (_ :: _) _ _; refine wpList_load rfl 104 (.tmp 2) rfl (.pointer (some ⟨g, 0, none⟩)) rfl hld ?_)
    | (go_at_call 45; refine hcl.mono ?_; clear hcl; rintro e W1 ⟨v1, x1, rfl, W2, W3, h1, h2, hA⟩)
    | (guard_target =~ wpList _ _ _ (_ :: _) _ _; refine wpList_store rfl 104 (.tmp 2) (.tmp 101) rfl (.pointer (some ⟨g, 0, none⟩)) v1 rfl rfl h1 ?_)
    | (guard_target =~ wpList _ _ _ (_ :: _) _ _; refine wpList_store rfl 2 (.tmp 103) (.tmp 102) rfl (.pointer (some ⟨g + 1, offN 7, none⟩)) x1 rfl rfl h2 ?_)
    | fail)
  clear hld h1 h2
  generalize W3 = W at *
  obtain ⟨D, c, hD, hF⟩ := hA.fin
  clear hA
  refine (wpIn_wide (n := 0)).1 ?_
  refine wpIn_region_chain wide_wide [.agg (rfV D (taken (flds 11) r).l.length c (taken (flds 11) r).bad), .agg (saidC (taken (flds 11) r).s), undef] [2] (FN w g D (taken (flds 11) r) c) (fun m W W' hL h => h.later hL) hF (by kernel_rfl) (by kernel_rfl) (by kernel_rfl) (by kernel_rfl) (by kernel_rfl) (by kernel_rfl) rfl (by decide) rfl ⟨?_, ?_, ?_, trivial⟩ ?_
  · exact chStep_val rfl (fun ac W m he hA => stepOk_want rfl (op_load rfl (he.keep (.tmp 2) (by kernel_rfl)) (loadR1 hA.r2) rfl))
  · exact chStep_val rfl (fun ac W m he hA => stepOk_want rfl (op_load rfl (he.keep (.tmp 3) (by kernel_rfl)) (loadSaid hA.wf hA.sd) rfl))
  · refine chStep_put (k := 0) rfl (.inl rfl) (fun ac W he hA => ⟨rfl, ?_⟩)
    obtain ⟨W', hr, hA'⟩ := FN.put hA
    exact op_storeK rfl (he.keep (.tmp 4) (by kernel_rfl)) (show ac.eval (.tmp 126) = .agg (rfV D (taken (flds 11) r).l.length c (taken (flds 11) r).bad) from he.val 0 126 (by kernel_rfl) rfl rfl) hr ⟨undef, rfl, hA'⟩
  intro xs W hA hx hkk hgt
  obtain ⟨W', hr, hlow, h4, h5, hz⟩ := FN.put2 hA
  refine last_store rfl rfl (hkk (.tmp 5) (by kernel_rfl)) ((hgt 1 127 (by decide) (by kernel_rfl)).trans (show xs 1 = .agg (saidC (taken (flds 11) r).s) from hx 1 (by decide) rfl)) hr ?_
  clear hx hkk hgt hA hF hr
  simp only [initL, lastL, putL, Nat.reduceAdd, Act.put, List.setIfInBounds_toArray, List.set_cons_succ, List.set_cons_zero]
  go_wp2_with fail
  exact bodyPost_ret (results_cc rfl _ _ (g + 2) (g + 3) 104 _ _ _ rfl rfl h4 Tryz.underlying104 rfl infoR1 (run_loadVar_row _ _ _ _ _ (0, 0) _ h5 Tryz.underlying29 rfl (by rw [hz]; exact infoSaid))) rfl (HΦ.out _ _ ⟨hlow, _, rfl, D, c, rfl, hD⟩)
set_option maxRecDepth 100000 in
set_option maxHeartbeats 4000000 in
theorem rd_rest13 {A0 : Option Addr} {l0 : List UInt8} {v : Value} {r : RdS} (hv : RefV A0 l0 v r.l r.bad) (hs : r.s.wf) (hk : r.s.kind = 13) (hl : r.l.length ≤ 9223372036854775000 ∧ r.s.route.length ≤ 9223372036854775000) (w : World) (hX : Rd w A0 l0) :
    Calls Tryz.prog 48 #[v, .agg (saidC r.s)] w fun e w' => Later w w' ∧ ∃ v', e = .returned (.tuple #[v', .agg (saidC (taken (flds 13) r).s)]) ∧ RefV A0 l0 v' (taken (flds 13) r).l (taken (flds 13) r).bad := by
  obtain ⟨D0, c0, rfl, hc, hcm, hD0⟩ := hv
  have hbx := boxSaid hs (w.alloc (.cells (rfV D0 r.l.length c0 r.bad) 104))
  have hA := ra_start hs hl w D0 c0 hc hcm hD0
  refine Calls.post fun Φ HΦ => ?_
  go_enter Tryz.func48, Tryz.ntmps48
  go_upto_region 1 with (first
    | (with_reducible refine wpList_alloc rfl 104 rfl (allocR1 _) ?_)
    | (with_reducible refine wpList_alloc rfl 29 rfl (allocSaid _) ?_)
    | fail)
  simp only [World.size_alloc] at hA ⊢
  obtain ⟨g, hg⟩ : ∃ q, q = w.heap.size := ⟨_, rfl⟩
  have HG := Lib.hid hg
  rw [← hg] at hA ⊢
  clear hbx hg
  generalize (((w.alloc (.cells (rfV D0 r.l.length c0 r.bad) 104)).alloc (.cells (saidC r.s) 29)).alloc (.cells (rfV none 0 0 false) 104)).alloc (.cells (saidC (Ms.blank 0)) 29) = W at *
  clear hD0 hc hcm
  have c00 : W.cell? ⟨g + 1, 0, none⟩ = some (.int .i64 13) := (hA.sd.cell 0).trans ((saidC_kind hA.wf).trans (by simp only [take1_kind, hk]))
  go_upto_region 23 with fail
  clear c00
  obtain ⟨D, c, hld, hcl⟩ := ra_num hA hX 6 1125899906842624 (by decide)
  clear hA
  go_upto_region 24 with (first
    | (guard_target =~ wpList _ _ _ (_ :: _) _ _; refine wpList_load rfl 104 (.tmp 2) rfl (.pointer (some ⟨g, 0, none⟩)) rfl hld ?_)
    | (go_at_call 45; refine hcl.mono ?_; clear hcl; rintro e W1 ⟨v0, x0, rfl, W2, W3, h1, h2, hA⟩)
    | (guard_target =~ wpList _ _ _ (_ :: _) _ _; refine wpList_store rfl 104 (.tmp 2) (.tmp 109) rfl (.pointer (some ⟨g, 0, none⟩)) v0 rfl rfl h1 ?_)
    | (guard_target =~ wpList _ _ _ (_ :: _) _ _; refine wpList_store rfl 2 (.tmp 111) (.tmp 110) rfl (.pointer (some ⟨g + 1, offN 6, none⟩)) x0 rfl rfl h2 ?_)
    | fail)
  clear hld h1 h2
  generalize W3 = W at *
  obtain ⟨D, c, hld, hcl⟩ := ra_hash rdHash_any hA hX 7 (by decide)
  clear hA
  go_upto_region 27 with (first
    | (guard_target =~ wpList _ _ _ (_ :: _) _ _; refine wpList_load rfl 104 (.tmp 2) rfl (.pointer (some ⟨g, 0, none⟩)) rfl hld ?_)
    | (go_at_call 100; refine hcl.mono ?_; clear hcl; rintro e W1 ⟨v1, x1, rfl, W2, W3, h1, h2, hA⟩)
    | (guard_target =~ wpList _ _ _ (_ :: _) _ _; refine wpList_store rfl 104 (.tmp 2) (.tmp 115) rfl (.pointer (some ⟨g, 0, none⟩)) v1 rfl rfl h1 ?_)
    | (guard_target =~ wpList _ _ _ (_ :: _) _ _; refine wpList_store rfl 24 (.tmp 117) (.tmp 116) rfl (.pointer (some ⟨g + 1, offH 7, none⟩)) x1 rfl rfl h2 ?_)
    | fail)
  clear hld h1 h2
  generalize W3 = W at *
  obtain ⟨D, c, hD, hF⟩ := hA.fin
  clear hA
  refine (wpIn_wide (n := 0)).1 ?_
  refine wpIn_region_chain wide_wide [.agg (rfV D (taken (flds 13) r).l.length c (taken (flds 13) r).bad), .agg (saidC (taken (flds 13) r).s), undef] [2] (FN w g D (taken (flds 13) r) c) (fun m W W' hL h => h.later hL) hF (by kernel_rfl) (by kernel_rfl) (by kernel_rfl) (by kernel_rfl) (by kernel_rfl) (by kernel_rfl) rfl (by decide) rfl ⟨?_, ?_, ?_, trivial⟩ ?_
  · exact chStep_val rfl (fun ac W m he hA => stepOk_want rfl (op_load rfl (he.keep (.tmp 2) (by kernel_rfl)) (loadR1 hA.r2) rfl))
  · exact chStep_val rfl (fun ac W m he hA => stepOk_want rfl (op_load rfl (he.keep (.tmp 3) (by kernel_rfl)) (loadSaid hA.wf hA.sd) rfl))
  · refine chStep_put (k := 0) rfl (.inl rfl) (fun ac W he hA => ⟨rfl, ?_⟩)
    obtain ⟨W', hr, hA'⟩ := FN.put hA
    exact op_storeK rfl (he.keep (.tmp 4) (by kernel_rfl)) (show ac.eval (.tmp 126) = .agg (rfV D (taken (flds 13) r).l.length c (taken (flds 13) r).bad) from he.val 0 126 (by kernel_rfl) rfl rfl) hr ⟨undef, rfl, hA'⟩
  intro xs W hA hx hkk hgt
  obtain ⟨W', hr, hlow, h4, h5, hz⟩ := FN.put2 hA
  refine last_store rfl rfl (hkk (.tmp 5) (by kernel_rfl)) ((hgt 1 127 (by decide) (by kernel_rfl)).trans (show xs 1 = .agg (saidC (taken (flds 13) r).s) from hx 1 (by decide) rfl)) hr ?_
  clear hx hkk hgt hA hF hr
  simp only [initL, lastL, putL, Nat.reduceAdd, Act.put, List.setIfInBounds_toArray, List.set_cons_succ, List.set_cons_zero]
  go_wp2_with fail
  exact bodyPost_ret (results_cc rfl _ _ (g + 2) (g + 3) 104 _ _ _ rfl rfl h4 Tryz.underlying104 rfl infoR1 (run_loadVar_row _ _ _ _ _ (0, 0) _ h5 Tryz.underlying29 rfl (by rw [hz]; exact infoSaid))) rfl (HΦ.out _ _ ⟨hlow, _, rfl, D, c, rfl, hD⟩)
set_option maxRecDepth 100000 in
set_option maxHeartbeats 4000000 in
theorem rd_rest14 {A0 : Option Addr} {l0 : List UInt8} {v : Value} {r : RdS} (hv : RefV A0 l0 v r.l r.bad) (hs : r.s.wf) (hk : r.s.kind = 14) (hl : r.l.length ≤ 9223372036854775000 ∧ r.s.route.length ≤ 9223372036854775000) (w : World) (hX : Rd w A0 l0) :
    Calls Tryz.prog 48 #[v, .agg (saidC r.s)] w fun e w' => Later w w' ∧ ∃ v', e = .returned (.tuple #[v', .agg (saidC (taken (flds 14) r).s)]) ∧ RefV A0 l0 v' (taken (flds 14) r).l (taken (flds 14) r).bad := by
  obtain ⟨D0, c0, rfl, hc, hcm, hD0⟩ := hv
  have hbx := boxSaid hs (w.alloc (.cells (rfV D0 r.l.length c0 r.bad) 104))
  have hA := ra_start hs hl w D0 c0 hc hcm hD0
  refine Calls.post fun Φ HΦ => ?_
  go_enter Tryz.func48, Tryz.ntmps48
  go_upto_region 1 with (first
    | (with_reducible refine wpList_alloc rfl 104 rfl (allocR1 _) ?_)
    | (with_reducible refine wpList_alloc rfl 29 rfl (allocSaid _) ?_)
    | fail)
  simp only [World.size_alloc] at hA ⊢
  obtain ⟨g, hg⟩ : ∃ q, q = w.heap.size := ⟨_, rfl⟩
  have HG := Lib.hid hg
  rw [← hg] at hA ⊢
  clear hbx hg
  generalize (((w.alloc (.cells (rfV D0 r.l.length c0 r.bad) 104)).alloc (.cells (saidC r.s) 29)).alloc (.cells (rfV none 0 0 false) 104)).alloc (.cells (saidC (Ms.blank 0)) 29) = W at *
  clear hD0 hc hcm
  have c00 : W.cell? ⟨g + 1, 0, none⟩ = some (.int .i64 14) := (hA.sd.cell 0).trans ((saidC_kind hA.wf).trans (by simp only [take1_kind, hk]))
  go_upto_region 26 with fail
  clear c00
  obtain ⟨D, c, hld, hcl⟩ := ra_num hA hX 11 2147483647 (by decide)
  clear hA
  go_upto_region 27 with (first
    | (guard_target =~ wpList _ _ _ (_ :: _) _ _; refine wpList_load rfl 104 (.tmp 2) rfl (.pointer (some ⟨g, 0, none⟩)) rfl hld ?_)
    | (go_at_call 45; refine hcl.mono ?_; clear hcl; rintro e W1 ⟨v0, x0, rfl, W2, W3, h1, h2, hA⟩)
    | (guard_target =~ wpList _ _ _ (_ :: _) _ _; refine wpList_store rfl 104 (.tmp 2) (.tmp 123) rfl (.pointer (some ⟨g, 0, none⟩)) v0 rfl rfl h1 ?_)
    | (guard_target =~ wpList _ _ _ (_ :: _) _ _; refine wpList_store rfl 2 (.tmp 125) (.tmp 124) rfl (.pointer (some ⟨g + 1, offN 11, none⟩)) x0 rfl rfl h2 ?_)
    | fail)
  clear hld h1 h2
  generalize W3 = W at *
  obtain ⟨D, c, hD, hF⟩ := hA.fin
  clear hA
  refine (wpIn_wide (n := 0)).1 ?_
  refine wpIn_region_chain wide_wide [.agg (rfV D (taken (flds 14) r).l.length c (taken (flds 14) r).bad), .agg (saidC (taken (flds 14) r).s), undef] [2] (FN w g D (taken (flds 14) r) c) (fun m W W' hL h => h.later hL) hF (by kernel_rfl) (by kernel_rfl) (by kernel_rfl) (by kernel_rfl) (by kernel_rfl) (by kernel_rfl) rfl (by decide) rfl ⟨?_, ?_, ?_, trivial⟩ ?_
  · exact chStep_val rfl (fun ac W m he hA => stepOk_want rfl (op_load rfl (he.keep (.tmp 2) (by kernel_rfl)) (loadR1 hA.r2) rfl))
  · exact chStep_val rfl (fun ac W m he hA => stepOk_want rfl (op_load rfl (he.keep (.tmp 3) (by kernel_rfl)) (loadSaid hA.wf hA.sd) rfl))
  · refine chStep_put (k := 0) rfl (.inl rfl) (fun ac W he hA => ⟨rfl, ?_⟩)
    obtain ⟨W', hr, hA'⟩ := FN.put hA
    exact op_storeK rfl (he.keep (.tmp 4) (by kernel_rfl)) (show ac.eval (.tmp 126) = .agg (rfV D (taken (flds 14) r).l.length c (taken (flds 14) r).bad) from he.val 0 126 (by kernel_rfl) rfl rfl) hr ⟨undef, rfl, hA'⟩
  intro xs W hA hx hkk hgt
  obtain ⟨W', hr, hlow, h4, h5, hz⟩ := FN.put2 hA
  refine last_store rfl rfl (hkk (.tmp 5) (by kernel_rfl)) ((hgt 1 127 (by decide) (by kernel_rfl)).trans (show xs 1 = .agg (saidC (taken (flds 14) r).s) from hx 1 (by decide) rfl)) hr ?_
  clear hx hkk hgt hA hF hr
  simp only [initL, lastL, putL, Nat.reduceAdd, Act.put, List.setIfInBounds_toArray, List.set_cons_succ, List.set_cons_zero]
  go_wp2_with fail
  exact bodyPost_ret (results_cc rfl _ _ (g + 2) (g + 3) 104 _ _ _ rfl rfl h4 Tryz.underlying104 rfl infoR1 (run_loadVar_row _ _ _ _ _ (0, 0) _ h5 Tryz.underlying29 rfl (by rw [hz]; exact infoSaid))) rfl (HΦ.out _ _ ⟨hlow, _, rfl, D, c, rfl, hD⟩)
set_option maxRecDepth 100000 in
set_option maxHeartbeats 4000000 in
theorem rd_rest0 {A0 : Option Addr} {l0 : List UInt8} {v : Value} {r : RdS} (hv : RefV A0 l0 v r.l r.bad) (hs : r.s.wf) (hk : r.s.kind = 0) (hl : r.l.length ≤ 9223372036854775000 ∧ r.s.route.length ≤ 9223372036854775000) (w : World) (hX : Rd w A0 l0) :
    Calls Tryz.prog 48 #[v, .agg (saidC r.s)] w fun e w' => Later w w' ∧ ∃ v', e = .returned (.tuple #[v', .agg (saidC (taken (flds 0) r).s)]) ∧ RefV A0 l0 v' (taken (flds 0) r).l (taken (flds 0) r).bad := by
  obtain ⟨D0, c0, rfl, hc, hcm, hD0⟩ := hv
  have hbx := boxSaid hs (w.alloc (.cells (rfV D0 r.l.length c0 r.bad) 104))
  have hA := ra_start hs hl w D0 c0 hc hcm hD0
  refine Calls.post fun Φ HΦ => ?_
  go_enter Tryz.func48, Tryz.ntmps48
  go_upto_region 1 with (first
    | (with_reducible refine wpList_alloc rfl 104 rfl (allocR1 _) ?_)
    | (with_reducible refine wpList_alloc rfl 29 rfl (allocSaid _) ?_)
    | fail)
  simp only [World.size_alloc] at hA ⊢
  obtain ⟨g, hg⟩ : ∃ q, q = w.heap.size := ⟨_, rfl⟩
  have HG := Lib.hid hg
  rw [← hg] at hA ⊢
  clear hbx hg
  generalize (((w.alloc (.cells (rfV D0 r.l.length c0 r.bad) 104)).alloc (.cells (saidC r.s) 29)).alloc (.cells (rfV none 0 0 false) 104)).alloc (.cells (saidC (Ms.blank 0)) 29) = W at *
  clear hD0 hc hcm
  have c00 : W.cell? ⟨g + 1, 0, none⟩ = some (.int .i64 0) := (hA.sd.cell 0).trans ((saidC_kind hA.wf).trans (by simp only [take1_kind, hk]))
  go_upto_region 27 with fail
  clear c00
  obtain ⟨D, c, hD, hF⟩ := hA.fin
  clear hA
  refine (wpIn_wide (n := 0)).1 ?_
  refine wpIn_region_chain wide_wide [.agg (rfV D (taken (flds 0) r).l.length c (taken (flds 0) r).bad), .agg (saidC (taken (flds 0) r).s), undef] [2] (FN w g D (taken (flds 0) r) c) (fun m W W' hL h => h.later hL) hF (by kernel_rfl) (by kernel_rfl) (by kernel_rfl) (by kernel_rfl) (by kernel_rfl) (by kernel_rfl) rfl (by decide) rfl ⟨?_, ?_, ?_, trivial⟩ ?_
  · exact chStep_val rfl (fun ac W m he hA => stepOk_want rfl (op_load rfl (he.keep (.tmp 2) (by kernel_rfl)) (loadR1 hA.r2) rfl))
  · exact chStep_val rfl (fun ac W m he hA => stepOk_want rfl (op_load rfl (he.keep (.tmp 3) (by kernel_rfl)) (loadSaid hA.wf hA.sd) rfl))
  · refine chStep_put (k := 0) rfl (.inl rfl) (fun ac W he hA => ⟨rfl, ?_⟩)
    obtain ⟨W', hr, hA'⟩ := FN.put hA
    exact op_storeK rfl (he.keep (.tmp 4) (by kernel_rfl)) (show ac.eval (.tmp 126) = .agg (rfV D (taken (flds 0) r).l.length c (taken (flds 0) r).bad) from he.val 0 126 (by kernel_rfl) rfl rfl) hr ⟨undef, rfl, hA'⟩
  intro xs W hA hx hkk hgt
  obtain ⟨W', hr, hlow, h4, h5, hz⟩ := FN.put2 hA
  refine last_store rfl rfl (hkk (.tmp 5) (by kernel_rfl)) ((hgt 1 127 (by decide) (by kernel_rfl)).trans (show xs 1 = .agg (saidC (taken (flds 0) r).s) from hx 1 (by decide) rfl)) hr ?_
  clear hx hkk hgt hA hF hr
  simp only [initL, lastL, putL, Nat.reduceAdd, Act.put, List.setIfInBounds_toArray, List.set_cons_succ, List.set_cons_zero]
  go_wp2_with fail
  exact bodyPost_ret (results_cc rfl _ _ (g + 2) (g + 3) 104 _ _ _ rfl rfl h4 Tryz.underlying104 rfl infoR1 (run_loadVar_row _ _ _ _ _ (0, 0) _ h5 Tryz.underlying29 rfl (by rw [hz]; exact infoSaid))) rfl (HΦ.out _ _ ⟨hlow, _, rfl, D, c, rfl, hD⟩)
set_option maxRecDepth 100000 in
set_option maxHeartbeats 4000000 in
theorem rd_rest5 {A0 : Option Addr} {l0 : List UInt8} {v : Value} {r : RdS} (hv : RefV A0 l0 v r.l r.bad) (hs : r.s.wf) (hk : r.s.kind = 5) (hl : r.l.length ≤ 9223372036854775000 ∧ r.s.route.length ≤ 9223372036854775000) (w : World) (hX : Rd w A0 l0) :
    Calls Tryz.prog 48 #[v, .agg (saidC r.s)] w fun e w' => Later w w' ∧ ∃ v', e = .returned (.tuple #[v', .agg (saidC (taken (flds 5) r).s)]) ∧ RefV A0 l0 v' (taken (flds 5) r).l (taken (flds 5) r).bad := by
  obtain ⟨D0, c0, rfl, hc, hcm, hD0⟩ := hv
  have hbx := boxSaid hs (w.alloc (.cells (rfV D0 r.l.length c0 r.bad) 104))
  have hA := ra_start hs hl w D0 c0 hc hcm hD0
  refine Calls.post fun Φ HΦ => ?_
  go_enter Tryz.func48, Tryz.ntmps48
  go_upto_region 1 with (first
    | (with_reducible refine wpList_alloc rfl 104 rfl (allocR1 _) ?_)
    | (with_reducible refine wpList_alloc rfl 29 rfl (allocSaid _) ?_)
    | fail)
  simp only [World.size_alloc] at hA ⊢
  obtain ⟨g, hg⟩ : ∃ q, q = w.heap.size := ⟨_, rfl⟩
  have HG := Lib.hid hg
  rw [← hg] at hA ⊢
  clear hbx hg
  generalize (((w.alloc (.cells (rfV D0 r.l.length c0 r.bad) 104)).alloc (.cells (saidC r.s) 29)).alloc (.cells (rfV none 0 0 false) 104)).alloc (.cells (saidC (Ms.blank 0)) 29) = W at *
  clear hD0 hc hcm
  have c00 : W.cell? ⟨g + 1, 0, none⟩ = some (.int .i64 5) := (hA.sd.cell 0).trans ((saidC_kind hA.wf).trans (by simp only [take1_kind, hk]))
  go_upto_region 27 with fail
  clear c00
  obtain ⟨D, c, hD, hF⟩ := hA.fin
  clear hA
  refine (wpIn_wide (n := 0)).1 ?_
  refine wpIn_region_chain wide_wide [.agg (rfV D (taken (flds 5) r).l.length c (taken (flds 5) r).bad), .agg (saidC (taken (flds 5) r).s), undef] [2] (FN w g D (taken (flds 5) r) c) (fun m W W' hL h => h.later hL) hF (by kernel_rfl) (by kernel_rfl) (by kernel_rfl) (by kernel_rfl) (by kernel_rfl) (by kernel_rfl) rfl (by decide) rfl ⟨?_, ?_, ?_, trivial⟩ ?_
  · exact chStep_val rfl (fun ac W m he hA => stepOk_want rfl (op_load rfl (he.keep (.tmp 2) (by kernel_rfl)) (loadR1 hA.r2) rfl))
  · exact chStep_val rfl (fun ac W m he hA => stepOk_want rfl (op_load rfl (he.keep (.tmp 3) (by kernel_rfl)) (loadSaid hA.wf hA.sd) rfl))
  · refine chStep_put (k := 0) rfl (.inl rfl) (fun ac W he hA => ⟨rfl, ?_⟩)
    obtain ⟨W', hr, hA'⟩ := FN.put hA
    exact op_storeK rfl (he.keep (.tmp 4) (by kernel_rfl)) (show ac.eval (.tmp 126) = .agg (rfV D (taken (flds 5) r).l.length c (taken (flds 5) r).bad) from he.val 0 126 (by kernel_rfl) rfl rfl) hr ⟨undef, rfl, hA'⟩
  intro xs W hA hx hkk hgt
  obtain ⟨W', hr, hlow, h4, h5, hz⟩ := FN.put2 hA
  refine last_store rfl rfl (hkk (.tmp 5) (by kernel_rfl)) ((hgt 1 127 (by decide) (by kernel_rfl)).trans (show xs 1 = .agg (saidC (taken (flds 5) r).s) from hx 1 (by decide) rfl)) hr ?_
  clear hx hkk hgt hA hF hr
  simp only [initL, lastL, putL, Nat.reduceAdd, Act.put, List.setIfInBounds_toArray, List.set_cons_succ, List.set_cons_zero]
  go_wp2_with fail
  exact bodyPost_ret (results_cc rfl _ _ (g + 2) (g + 3) 104 _ _ _ rfl rfl h4 Tryz.underlying104 rfl infoR1 (run_loadVar_row _ _ _ _ _ (0, 0) _ h5 Tryz.underlying29 rfl (by rw [hz]; exact infoSaid))) rfl (HΦ.out _ _ ⟨hlow, _, rfl, D, c, rfl, hD⟩)
set_option maxRecDepth 100000 in
set_option maxHeartbeats 4000000 in
theorem rd_rest12 {A0 : Option Addr} {l0 : List UInt8} {v : Value} {r : RdS} (hv : RefV A0 l0 v r.l r.bad) (hs : r.s.wf) (hk : r.s.kind = 12) (hl : r.l.length ≤ 9223372036854775000 ∧ r.s.route.length ≤ 9223372036854775000) (w : World) (hX : Rd w A0 l0) :
    Calls Tryz.prog 48 #[v, .agg (saidC r.s)] w fun e w' => Later w w' ∧ ∃ v', e = .returned (.tuple #[v', .agg (saidC (taken (flds 12) r).s)]) ∧ RefV A0 l0 v' (taken (flds 12) r).l (taken (flds 12) r).bad := by
  obtain ⟨D0, c0, rfl, hc, hcm, hD0⟩ := hv
  have hbx := boxSaid hs (w.alloc (.cells (rfV D0 r.l.length c0 r.bad) 104))
  have hA := ra_start hs hl w D0 c0 hc hcm hD0
  refine Calls.post fun Φ HΦ => ?_
  go_enter Tryz.func48, Tryz.ntmps48
  go_upto_region 1 with (first
    | (with_reducible refine wpList_alloc rfl 104 rfl (allocR1 _) ?_)
    | (with_reducible refine wpList_alloc rfl 29 rfl (allocSaid _) ?_)
    | fail)
  simp only [World.size_alloc] at hA ⊢
  obtain ⟨g, hg⟩ : ∃ q, q = w.heap.size := ⟨_, rfl⟩
  have HG := Lib.hid hg
  rw [← hg] at hA ⊢
  clear hbx hg
  generalize (((w.alloc (.cells (rfV D0 r.l.length c0 r.bad) 104)).alloc (.cells (saidC r.s) 29)).alloc (.cells (rfV none 0 0 false) 104)).alloc (.cells (saidC (Ms.blank 0)) 29) = W at *
  clear hD0 hc hcm
  have c00 : W.cell? ⟨g + 1, 0, none⟩ = some (.int .i64 12) := (hA.sd.cell 0).trans ((saidC_kind hA.wf).trans (by simp only [take1_kind, hk]))
  go_upto_region 27 with fail
  clear c00
  obtain ⟨D, c, hD, hF⟩ := hA.fin
  clear hA
  refine (wpIn_wide (n := 0)).1 ?_
  refine wpIn_region_chain wide_wide [.agg (rfV D (taken (flds 12) r).l.length c (taken (flds 12) r).bad), .agg (saidC (taken (flds 12) r).s), undef] [2] (FN w g D (taken (flds 12) r) c) (fun m W W' hL h => h.later hL) hF (by kernel_rfl) (by kernel_rfl) (by kernel_rfl) (by kernel_rfl) (by kernel_rfl) (by kernel_rfl) rfl (by decide) rfl ⟨?_, ?_, ?_, trivial⟩ ?_
  · exact chStep_val rfl (fun ac W m he hA => stepOk_want rfl (op_load rfl (he.keep (.tmp 2) (by kernel_rfl)) (loadR1 hA.r2) rfl))
  · exact chStep_val rfl (fun ac W m he hA => stepOk_want rfl (op_load rfl (he.keep (.tmp 3) (by kernel_rfl)) (loadSaid hA.wf hA.sd) rfl))
  · refine chStep_put (k := 0) rfl (.inl rfl) (fun ac W he hA => ⟨rfl, ?_⟩)
    obtain ⟨W', hr, hA'⟩ := FN.put hA
    exact op_storeK rfl (he.keep (.tmp 4) (by kernel_rfl)) (show ac.eval (.tmp 126) = .agg (rfV D (taken (flds 12) r).l.length c (taken (flds 12) r).bad) from he.val 0 126 (by kernel_rfl) rfl rfl) hr ⟨undef, rfl, hA'⟩
  intro xs W hA hx hkk hgt
  obtain ⟨W', hr, hlow, h4, h5, hz⟩ := FN.put2 hA
  refine last_store rfl rfl (hkk (.tmp 5) (by kernel_rfl)) ((hgt 1 127 (by decide) (by kernel_rfl)).trans (show xs 1 = .agg (saidC (taken (flds 12) r).s) from hx 1 (by decide) rfl)) hr ?_
  clear hx hkk hgt hA hF hr
  simp only [initL, lastL, putL, Nat.reduceAdd, Act.put, List.setIfInBounds_toArray, List.set_cons_succ, List.set_cons_zero]
  go_wp2_with fail
  exact bodyPost_ret (results_cc rfl _ _ (g + 2) (g + 3) 104 _ _ _ rfl rfl h4 Tryz.underlying104 rfl infoR1 (run_loadVar_row _ _ _ _ _ (0, 0) _ h5 Tryz.underlying29 rfl (by rw [hz]; exact infoSaid))) rfl (HΦ.out _ _ ⟨hlow, _, rfl, D, c, rfl, hD⟩)
end Go.Proofs.YtcajhdmppfiaeaaGreat
namespace Go.Proofs.YtcajhdmppfiaeaaGreat
open Go.RowKit Ms
theorem numR_range (l : List UInt8) (bad : Bool) (most : Int) (h : 0 ≤ most) : 0 ≤ (Wr.numR l bad most).2.1 ∧ (Wr.numR l bad most).2.1 ≤ most := by
  unfold Wr.numR
  split
  · exact ⟨Int.le_refl _, h⟩
  · split
    · exact ⟨Int.le_refl _, h⟩
    · split
      · rename_i h3
        exact ⟨Int.natCast_nonneg _, h3.2⟩
      · exact ⟨Int.le_refl _, h⟩
theorem numR_len (l : List UInt8) (bad : Bool) (most : Int) : (Wr.numR l bad most).1.1.length ≤ l.length := by
  unfold Wr.numR
  split
  · exact Nat.le_refl _
  · split
    · exact Nat.le_refl _
    · split
      · simp only [List.length_drop]; omega
      · exact Nat.le_refl _
section
variable {A0 : Option Addr} {l0 : List UInt8} {v : Value} {r : RdS}
theorem rd_rest_any (hv : RefV A0 l0 v r.l r.bad) (hs : r.s.wf) (hk : (0 ≤ r.s.kind ∧ r.s.kind ≤ 14) ∧ r.s.kind ≠ 1 ∧ r.s.kind ≠ 6 ∧ r.s.kind ≠ 7 ∧ r.s.kind ≠ 8) (hl : r.l.length ≤ 9223372036854775000 ∧ r.s.route.length ≤ 9223372036854775000) (w : World) (hX : Rd w A0 l0) :
    Calls Tryz.prog 48 #[v, .agg (saidC r.s)] w fun e w' => Later w w' ∧ ∃ v', e = .returned (.tuple #[v', .agg (saidC (taken (flds r.s.kind) r).s)]) ∧ RefV A0 l0 v' (taken (flds r.s.kind) r).l (taken (flds r.s.kind) r).bad := by
  have hK : r.s.kind = 0 ∨ r.s.kind = 2 ∨ r.s.kind = 3 ∨ r.s.kind = 4 ∨ r.s.kind = 5 ∨ r.s.kind = 9 ∨ r.s.kind = 10 ∨ r.s.kind = 11 ∨ r.s.kind = 12 ∨ r.s.kind = 13 ∨ r.s.kind = 14 := by omega
  rcases hK with h | h | h | h | h | h | h | h | h | h | h
  · rw [h]; exact rd_rest0 hv hs h hl w hX
  · rw [h]; exact rd_rest2 hv hs h hl w hX
  · rw [h]; exact rd_rest3 hv hs h hl w hX
  · rw [h]; exact rd_rest4 hv hs h hl w hX
  · rw [h]; exact rd_rest5 hv hs h hl w hX
  · rw [h]; exact rd_rest9 hv hs h hl w hX
  · rw [h]; exact rd_rest10 hv hs h hl w hX
  · rw [h]; exact rd_rest11 hv hs h hl w hX
  · rw [h]; exact rd_rest12 hv hs h hl w hX
  · rw [h]; exact rd_rest13 hv hs h hl w hX
  · rw [h]; exact rd_rest14 hv hs h hl w hX
theorem rd_pay_any (hv : RefV A0 l0 v r.l r.bad) (hs : r.s.wf) (hk : r.s.kind = 6 ∨ r.s.kind = 7 ∨ r.s.kind = 8) (hl : r.l.length ≤ 9223372036854775000 ∧ r.s.route.length ≤ 9223372036854775000) (w : World) (hX : Rd w A0 l0) :
    Calls Tryz.prog 47 #[v, .agg (saidC r.s)] w fun e w' => Later w w' ∧ ∃ v', e = .returned (.tuple #[v', .agg (saidC (taken (flds r.s.kind) r).s)]) ∧ RefV A0 l0 v' (taken (flds r.s.kind) r).l (taken (flds r.s.kind) r).bad := by
  rcases hk with h | h | h
  · rw [h]; exact rd_payment6 hv hs h hl w hX
  · rw [h]; exact rd_payment7 hv hs h hl w hX
  · rw [h]; exact rd_payment8 hv hs h hl w hX
theorem rd_open_any (hv : RefV A0 l0 v r.l r.bad) (hs : r.s.wf) (h : r.s.kind = 1) (hl : r.l.length ≤ 9223372036854775000 ∧ r.s.route.length ≤ 9223372036854775000) (w : World) (hX : Rd w A0 l0) :
    Calls Tryz.prog 46 #[v, .agg (saidC r.s)] w fun e w' => Later w w' ∧ ∃ v', e = .returned (.tuple #[v', .agg (saidC (taken (flds r.s.kind) r).s)]) ∧ RefV A0 l0 v' (taken (flds r.s.kind) r).l (taken (flds r.s.kind) r).bad := by
  rw [h]; exact rd_open1 hv hs h hl w hX
end
theorem buildRf1 (A : Option Addr) (n c : Nat) (w : World) : (Instr.build 102 #[(0, .slice A n c)]).run Tryz.prog w = .ok (.agg (rfV A n c false)) w := by kernel_rfl
theorem buildSaidZ (w : World) : (Instr.build 29 #[]).run Tryz.prog w = .ok (.agg (saidC (Ms.blank 0))) w := by kernel_rfl
theorem parse_of {l : List UInt8} {F : RdS} (h : Ms.final l = F) : F.s.wf ∧ F.s.route.length ≤ l.length ∧ Ms.parse l = (if (!F.bad && F.l.isEmpty && Ms.right F.s) = true then F.s else Ms.blank 0) ∧ Ms.parseE l = (if (!F.bad && F.l.isEmpty && Ms.right F.s) = true then 0 else 210) := by
  subst h
  exact ⟨final_wf l, final_route l, rfl, rfl⟩
set_option maxRecDepth 100000 in
set_option maxHeartbeats 8000000 in
theorem refParse_any (A : Option Addr) (n c : Nat) (l : List UInt8) (w : World) (hn : l.length = n) (hc : n ≤ c) (hcm : c ≤ 9223372036854775807) (hnm : n ≤ 9223372036854775000) (hX : Rd w A l) :
    Calls Tryz.prog 16 #[.slice A n c] w fun e w' => e = .returned (.tuple #[.agg (saidC (Ms.parse l)), .int .i64 (Ms.parseE l)]) ∧ Below w.heap.size w w' := by
  have kg := Row.new w 29 (saidC (Ms.blank 0))
  have hlow := below_new w (.cells (saidC (Ms.blank 0)) 29)
  have hX1 := hX.alloc (.cells (saidC (Ms.blank 0)) 29)
  refine Calls.post fun Φ HΦ => ?_
  go_enter Tryz.func16, Tryz.ntmps16
  go_upto_region 1 with (first
    | (with_reducible refine wpList_alloc rfl 29 rfl (allocSaid _) ?_)
    | fail)
  obtain ⟨g, hg⟩ : ∃ q, q = w.heap.size := ⟨_, rfl⟩
  have hgw : w.heap.size ≤ g := Nat.le_of_eq hg.symm
  rw [← hg] at kg ⊢
  clear hg
  generalize w.alloc (.cells (saidC (Ms.blank 0)) 29) = w1 at *
  have hnum := rdNum_any (A0 := A) (l0 := l) (l := l) (v := .agg (rfV A n c false)) (bad := false) ⟨A, c, by rw [hn], by omega, hcm, fun X h => h⟩ 14 w1 hX1 (by omega)
  have hst : Ms.start l = ⟨(Wr.numR l false 14).1.1, (Wr.numR l false 14).1.2, Ms.blank (Wr.numR l false 14).2.1⟩ := rfl
  have hrg := numR_range l false 14 (by decide)
  have hle := numR_len l false 14
  obtain ⟨R, hR⟩ : ∃ R, Wr.numR l false 14 = R := ⟨_, rfl⟩
  rw [hR] at hnum hst hrg hle
  clear hR
  obtain ⟨⟨l', bad'⟩, x, no⟩ := R
  simp only at hnum hst hrg hle
  have HS := Lib.hid hst
  have hln : l.length ≤ 9223372036854775000 := by omega
  have HRG := Lib.hid hrg
  have HLE := Lib.hid hle
  have HLN := Lib.hid hln
  clear hst hn hc hcm hnm hX1 hrg hle hln
  go_upto_region 2 with (first
    | (guard_target =~ wpList _ _ _ (_ :: _) _ _; refine wpList_build rfl 102 _ rfl #[(0, .slice A n c)] (by simp only [List.map_toArray, List.map_cons, List.map_nil]; rfl) (buildRf1 _ _ _ _) ?_)
    | (guard_target =~ wpList _ _ _ (_ :: _) _ _; refine wpList_build rfl 104 _ rfl #[(0, .agg (rfV A n c false))] (by simp only [List.map_toArray, List.map_cons, List.map_nil]; rfl) (buildR1 _ _ _ _ _) ?_)
    | (go_at_call 45; refine hnum.mono ?_; clear hnum; rintro e W1 ⟨hL1, v, rfl, D, c2, rfl, h1, h2, hD⟩; obtain ⟨W2, hst2, k42, hg2⟩ := storeR1 (A' := D) (n' := l'.length) (c' := c2) (bad' := bad') (Row.new W1 104 (rfV none 0 0 false)))
    | (with_reducible refine wpList_alloc rfl 104 rfl (allocR1 _) ?_)
    | (guard_target =~ wpList _ _ _ (_ :: _) _ _; refine wpList_store rfl 104 (.tmp 4) (.tmp 12) rfl (.pointer (some ⟨W1.heap.size, 0, none⟩)) (.agg (rfV D l'.length c2 bad')) rfl rfl hst2 ?_)
    | fail)
  have hL12 : Later w1 W2 := hL1.step (((Later.refl W1).alloc (.cells (rfV none 0 0 false) 104)).grown hg2 (by simp) (fun j e => by cases e; omega))
  have hg4q : g < W1.heap.size := (kg.later hL1).lt
  obtain ⟨q4, hq4⟩ : ∃ q, q = W1.heap.size := ⟨_, rfl⟩
  rw [← hq4] at k42 hg4q ⊢
  have kg2 := kg.later hL12
  have hlow2 := Later.step hlow hL12
  clear hst2 hg2 hL12 hL1 hq4 kg hlow
  obtain ⟨Wp, hst3, k6, hL3⟩ := newSaid W2 (blank_wf x)
  have hq46 : q4 < W2.heap.size := k42.lt
  go_upto_region 3 with (first
    | (guard_target =~ wpList _ _ _ (_ :: _) _ _; refine wpList_build rfl 29 _ rfl #[(0, .int .i64 x)] (by simp only [List.map_toArray, List.map_cons, List.map_nil]; rfl) (buildSaidK _ _) ?_)
    | (with_reducible refine wpList_alloc rfl 29 rfl (allocSaid _) ?_)
    | (guard_target =~ wpList _ _ _ (_ :: _) _ _; refine wpList_store rfl 29 (.tmp 6) (.tmp 15) rfl (.pointer (some ⟨W2.heap.size, 0, none⟩)) (.agg (saidC (Ms.blank x))) rfl rfl hst3 ?_)
    | fail)
  obtain ⟨q6, hq6⟩ : ∃ q, q = W2.heap.size := ⟨_, rfl⟩
  rw [← hq6] at k6 hq46 ⊢
  have kg := kg2.later hL3
  have k4 := k42.later hL3
  have hlow : Below w.heap.size w Wp := Later.step hlow2 hL3
  clear hst3 hL3 hq6 kg2 hlow2 k42
  have hv : RefV A l (.agg (rfV D l'.length c2 bad')) (Ms.start l).l (Ms.start l).bad := by rw [HS.out]; exact ⟨D, c2, rfl, h1, h2, hD⟩
  have hss : (Ms.start l).s = Ms.blank x := by rw [HS.out]
  have hkx : (Ms.start l).s.kind = x := by rw [hss]; rfl
  have hlen : (Ms.start l).l.length ≤ 9223372036854775000 ∧ (Ms.start l).s.route.length ≤ 9223372036854775000 := by
    rw [HS.out]
    exact ⟨Nat.le_trans HLE.out HLN.out, Nat.zero_le _⟩
  have hXW := hX.below hlow
  have hld4 := loadR1 k4
  have hld6 := loadSaid (blank_wf x) k6
  have hrg := HRG.out
  have hln := HLN.out
  clear h1 h2 hD
  have hF0 : Ms.final l = Ms.taken (flds (Ms.start l).s.kind) (Ms.start l) := rfl
  have hwfR := start_wf l
  obtain ⟨F, hFe⟩ : ∃ F, Ms.final l = F := ⟨_, rfl⟩
  rw [hFe] at hF0
  obtain ⟨hwfF, hrtF, hpar, hpe⟩ := parse_of hFe
  have hrtF' : F.s.route.length ≤ 9223372036854775807 := by omega
  have HPAR := Lib.hid hpar
  have HPE := Lib.hid hpe
  clear hFe hpar hpe hrtF
  generalize Ms.start l = R at *
  have hF : F = Ms.taken (flds R.s.kind) R := hF0
  have HF := Lib.hid hF
  have HRT : Hid (∀ W, Calls Tryz.prog 11 #[.agg (saidC F.s)] W fun e w' => e = .returned (.bool (Ms.right F.s)) ∧ Later W w') := Lib.hid (fun W => refRight_any F.s hwfF hrtF' W)
  have HV := Lib.hid hv
  have HKX := Lib.hid hkx
  have HSS := Lib.hid hss
  have HLEN := Lib.hid hlen
  have HXW := Lib.hid hXW
  have HL4 := Lib.hid hld4
  have HL6 := Lib.hid hld6
  have HRG2 := Lib.hid hrg
  clear hF0 hF hv hkx hss hlen hXW hld4 hld6 hrg hln hrtF' HS HRG HLE HLN
  go_upto_region 5 with fail
  refine name_frame fun T0 hT0 => ?_
  rename_i Kr hKr Kc hKc
  have hrest : ∀ (u17 u18 u19 u20 u21 u22 u23 u24 u25 u26 u27 u28 u29 u30 u31 u32 u33 u34 u35 u36 u37 u38 u39 u40 : Value) (X : World) (D3 : Option Addr) (c3 : Nat), Below w.heap.size w X → Row X g 29 (saidC (Ms.blank 0)) → Row X q4 104 (rfV D3 F.l.length c3 F.bad) → Row X q6 29 (saidC F.s) → Kr { tmps := ((((((((((((((((((((((((T0).setIfInBounds 17 u17).setIfInBounds 18 u18).setIfInBounds 19 u19).setIfInBounds 20 u20).setIfInBounds 21 u21).setIfInBounds 22 u22).setIfInBounds 23 u23).setIfInBounds 24 u24).setIfInBounds 25 u25).setIfInBounds 26 u26).setIfInBounds 27 u27).setIfInBounds 28 u28).setIfInBounds 29 u29).setIfInBounds 30 u30).setIfInBounds 31 u31).setIfInBounds 32 u32).setIfInBounds 33 u33).setIfInBounds 34 u34).setIfInBounds 35 u35).setIfInBounds 36 u36).setIfInBounds 37 u37).setIfInBounds 38 u38).setIfInBounds 39 u39).setIfInBounds 40 u40, defers := [] } X := by
    intro u17 u18 u19 u20 u21 u22 u23 u24 u25 u26 u27 u28 u29 u30 u31 u32 u33 u34 u35 u36 u37 u38 u39 u40 X D3 c3 hlow kg k4 k6
    refine hKr _ _ ?_
    rw [hT0]
    simp only [List.setIfInBounds_toArray, List.set_cons_succ, List.set_cons_zero]
    clear hT0 hKr hKc
    obtain ⟨Fl, Fb, Fs⟩ := F
    have ca : X.cell? ⟨q4, 0, none⟩ = some (.slice D3 Fl.length c3) := k4.cell 0
    have cb : X.cell? ⟨q4, 1, none⟩ = some (.bool Fb) := k4.cell 1
    have hwfF : Fs.wf := hwfF
    obtain ⟨W5, hst5, kg5, hg5⟩ := storeSaid (blank_wf 0) (blank_wf 0) kg
    have hlow5 := hlow.grown hg5 hlow.size (fun j e => by injection e with e; omega)
    cases Fb
    · by_cases hl0 : Fl = []
      · subst hl0
        have hld := loadSaid hwfF k6
        obtain ⟨rb, hr⟩ : ∃ b, Ms.right Fs = b := ⟨_, rfl⟩
        have HRT2 : Hid (∀ W, Calls Tryz.prog 11 #[.agg (saidC Fs)] W fun e w' => e = .returned (.bool rb) ∧ Later W w') := Lib.hid (fun W => hr ▸ HRT.out W)
        have HP : Hid ((!false && ([] : List UInt8).isEmpty && Ms.right Fs) = rb) := Lib.hid (by rw [hr]; rfl)
        have K := Lib.hid kg
        have K6 := Lib.hid k6
        have HLOW := Lib.hid hlow
        clear hr kg hlow kg5 hst5 hg5 hlow5 k6 HRT k4
        cases rb
        · go_upto_region 12 with (first
            | (guard_target =~ wpList _ _ _ (_ :: _) _ _; refine wpList_loadG rfl 29 (.tmp 6) rfl (.pointer (some ⟨q6, 0, none⟩)) rfl hld ?_)
            | (go_at_call 11; refine (HRT2.out _).mono ?_; rintro e W6 ⟨rfl, hL6⟩)
            | fail)
          obtain ⟨W7, hst7, kg7, hg7⟩ := storeSaid (blank_wf 0) (blank_wf 0) (K.out.later hL6)
          have hlow7 := (HLOW.out.trans (hL6.below.mono HLOW.out.size)).grown hg7 (Nat.le_trans HLOW.out.size hL6.size) (fun j e => by injection e with e; omega)
          clear hL6
          go_wp2_with (first
            | (guard_target =~ wpList _ _ _ (_ :: _) _ _; refine wpList_build rfl 29 #[] rfl #[] rfl (buildSaidZ _) ?_)
            | (guard_target =~ wpList _ _ _ (_ :: _) _ _; refine wpList_store rfl 29 (.tmp 2) (.tmp 56) rfl (.pointer (some ⟨g, 0, none⟩)) (.agg (saidC (Ms.blank 0))) rfl rfl hst7 ?_)
            | fail)
          exact bodyPost_ret (results_cell_tmp rfl _ _ g 29 (saidC (Ms.blank 0)) (0, 0) _ (.int .i64 210) rfl rfl kg7 Tryz.underlying29 rfl (by rw [saidC_size (blank_wf 0)]; exact infoSaid)) rfl (HΦ.out _ _ ⟨by rw [HPAR.out, HPE.out, HP.out]; rfl, hlow7⟩)
        · go_upto_region 13 with (first
            | (guard_target =~ wpList _ _ _ (_ :: _) _ _; refine wpList_loadG rfl 29 (.tmp 6) rfl (.pointer (some ⟨q6, 0, none⟩)) rfl hld ?_)
            | (go_at_call 11; refine (HRT2.out _).mono ?_; rintro e W6 ⟨rfl, hL6⟩)
            | fail)
          clear hld
          have hld := loadSaid hwfF (K6.out.later hL6)
          obtain ⟨W7, hst7, kg7, hg7⟩ := storeSaid (blank_wf 0) hwfF (K.out.later hL6)
          have hlow7 := (HLOW.out.trans (hL6.below.mono HLOW.out.size)).grown hg7 (Nat.le_trans HLOW.out.size hL6.size) (fun j e => by injection e with e; omega)
          clear hL6
          go_wp2_with (first
            | (guard_target =~ wpList _ _ _ (_ :: _) _ _; refine wpList_load rfl 29 (.tmp 6) rfl (.pointer (some ⟨q6, 0, none⟩)) rfl hld ?_)
            | (guard_target =~ wpList _ _ _ (_ :: _) _ _; refine wpList_store rfl 29 (.tmp 2) (.tmp 57) rfl (.pointer (some ⟨g, 0, none⟩)) (.agg (saidC Fs)) rfl rfl hst7 ?_)
            | fail)
          exact bodyPost_ret (results_cell_tmp rfl _ _ g 29 (saidC Fs) (0, 0) _ (.int .i64 0) rfl rfl kg7 Tryz.underlying29 rfl (by rw [saidC_size hwfF]; exact infoSaid)) rfl (HΦ.out _ _ ⟨by rw [HPAR.out, HPE.out, HP.out]; rfl, hlow7⟩)
      · have HP : Hid ((!false && Fl.isEmpty && Ms.right Fs) = false) := Lib.hid (by cases Fl with | nil => exact absurd rfl hl0 | cons a b => rfl)
        have hpos : decide ((0 : Int) < (Fl.length : Int)) = true := decide_eq_true (by have := List.length_pos_iff.2 hl0; omega)
        have hpos' : decide (0 < Fl.length) = true := decide_eq_true (by have := List.length_pos_iff.2 hl0; omega)
        clear hl0 k6 kg hlow k4 HRT
        go_wp2_with (first
          | (guard_target =~ wpList _ _ _ (_ :: _) _ _; refine wpList_build rfl 29 #[] rfl #[] rfl (buildSaidZ _) ?_)
          | (guard_target =~ wpList _ _ _ (_ :: _) _ _; refine wpList_store rfl 29 (.tmp 2) (.tmp 56) rfl (.pointer (some ⟨g, 0, none⟩)) (.agg (saidC (Ms.blank 0))) rfl rfl hst5 ?_)
          | fail)
        exact bodyPost_ret (results_cell_tmp rfl _ _ g 29 (saidC (Ms.blank 0)) (0, 0) _ (.int .i64 210) rfl rfl kg5 Tryz.underlying29 rfl (by rw [saidC_size (blank_wf 0)]; exact infoSaid)) rfl (HΦ.out _ _ ⟨by rw [HPAR.out, HPE.out, HP.out]; rfl, hlow5⟩)
    · have HP : Hid ((!true && Fl.isEmpty && Ms.right Fs) = false) := Lib.hid rfl
      clear k6 kg hlow k4 HRT
      go_wp2_with (first
        | (guard_target =~ wpList _ _ _ (_ :: _) _ _; refine wpList_build rfl 29 #[] rfl #[] rfl (buildSaidZ _) ?_)
        | (guard_target =~ wpList _ _ _ (_ :: _) _ _; refine wpList_store rfl 29 (.tmp 2) (.tmp 56) rfl (.pointer (some ⟨g, 0, none⟩)) (.agg (saidC (Ms.blank 0))) rfl rfl hst5 ?_)
        | fail)
      exact bodyPost_ret (results_cell_tmp rfl _ _ g 29 (saidC (Ms.blank 0)) (0, 0) _ (.int .i64 210) rfl rfl kg5 Tryz.underlying29 rfl (by rw [saidC_size (blank_wf 0)]; exact infoSaid)) rfl (HΦ.out _ _ ⟨by rw [HPAR.out, HPE.out, HP.out]; rfl, hlow5⟩)
  rw [hT0] at hrest ⊢
  simp only [List.setIfInBounds_toArray, List.set_cons_succ, List.set_cons_zero] at hrest
  clear hT0 hKr
  have HREST := Lib.hid hrest
  clear hrest
  by_cases x1 : x = 1
  · subst x1
    have hcl : Calls Tryz.prog 46 #[.agg (rfV D l'.length c2 bad'), .agg (saidC (Ms.blank 1))] Wp fun e w' => Later Wp w' ∧ ∃ v', e = .returned (.tuple #[v', .agg (saidC F.s)]) ∧ RefV A l v' F.l F.bad := by
      have := rd_open_any (r := R) HV.out hwfR HKX.out HLEN.out Wp HXW.out
      rw [show saidC R.s = saidC (Ms.blank _) by rw [HSS.out], ← HF.out] at this
      exact this
    have HCL := Lib.hid hcl
    have hld4 := HL4.out
    have hld6 := HL6.out
    clear hcl HF HV HKX HSS HLEN HXW HRT HL4 HL6 HPAR HPE
    go_wp2_with (first
      | (guard_target =~ wpList _ _ _ (_ :: _) _ _; refine wpList_load rfl 104 (.tmp 4) rfl (.pointer (some ⟨q4, 0, none⟩)) rfl hld4 ?_)
      | (guard_target =~ wpList _ _ _ (_ :: _) _ _; refine wpList_load rfl 29 (.tmp 6) rfl (.pointer (some ⟨q6, 0, none⟩)) rfl hld6 ?_)
      | (go_at_call 46; refine HCL.out.mono ?_; clear HCL; rintro e Wc ⟨hL3, v, rfl, D3, c3, rfl, _, _, _⟩; obtain ⟨W3, hst4, k43, hg4⟩ := storeR1 (A' := D3) (n' := F.l.length) (c' := c3) (bad' := F.bad) (k4.later hL3); obtain ⟨W4, hst6, k64, hg6⟩ := storeSaid (blank_wf 1) hwfF ((k6.later hL3).grown hg4 (fun e => by injection e with e; omega)))
      | (guard_target =~ wpList _ _ _ (_ :: _) _ _; refine wpList_store rfl 104 (.tmp 4) (.tmp 29) rfl (.pointer (some ⟨q4, 0, none⟩)) (.agg (rfV D3 F.l.length c3 F.bad)) rfl rfl hst4 ?_)
      | (guard_target =~ wpList _ _ _ (_ :: _) _ _; refine wpList_store rfl 29 (.tmp 6) (.tmp 30) rfl (.pointer (some ⟨q6, 0, none⟩)) (.agg (saidC F.s)) rfl rfl hst6 ?_)
      | fail)
    have hlow1 : Below w.heap.size w W3 := (hlow.trans (hL3.below.mono hlow.size)).grown hg4 (Nat.le_trans hlow.size hL3.size) (fun j e => by injection e with e; omega)
    have hlow2 : Below w.heap.size w W4 := hlow1.grown hg6 hlow1.size (fun j e => by injection e with e; omega)
    have kg2 : Row W4 g 29 (saidC (Ms.blank 0)) := ((kg.later hL3).grown hg4 (fun e => by injection e with e; omega)).grown hg6 (fun e => by injection e with e; omega)
    have k42 : Row W4 q4 104 (rfV D3 F.l.length c3 F.bad) := k43.grown hg6 (fun e => by injection e with e; omega)
    exact HREST.out _ _ _ _ _ _ _ _ _ _ _ _ _ _ _ _ _ _ _ _ _ _ _ _ _ _ _ hlow2 kg2 k42 k64
  by_cases x6 : x = 6
  · subst x6
    have hcl : Calls Tryz.prog 47 #[.agg (rfV D l'.length c2 bad'), .agg (saidC (Ms.blank 6))] Wp fun e w' => Later Wp w' ∧ ∃ v', e = .returned (.tuple #[v', .agg (saidC F.s)]) ∧ RefV A l v' F.l F.bad := by
      have := rd_pay_any (r := R) HV.out hwfR (by rw [HKX.out]; exact (by decide : (6 : Int) = 6 ∨ (6 : Int) = 7 ∨ (6 : Int) = 8)) HLEN.out Wp HXW.out
      rw [show saidC R.s = saidC (Ms.blank _) by rw [HSS.out], ← HF.out] at this
      exact this
    have HCL := Lib.hid hcl
    have hld4 := HL4.out
    have hld6 := HL6.out
    clear hcl HF HV HKX HSS HLEN HXW HRT HL4 HL6 HPAR HPE
    go_wp2_with (first
      | (guard_target =~ wpList _ _ _ (_ :: _) _ _; refine wpList_load rfl 104 (.tmp 4) rfl (.pointer (some ⟨q4, 0, none⟩)) rfl hld4 ?_)
      | (guard_target =~ wpList _ _ _ (_ :: _) _ _; refine wpList_load rfl 29 (.tmp 6) rfl (.pointer (some ⟨q6, 0, none⟩)) rfl hld6 ?_)
      | (go_at_call 47; refine HCL.out.mono ?_; clear HCL; rintro e Wc ⟨hL3, v, rfl, D3, c3, rfl, _, _, _⟩; obtain ⟨W3, hst4, k43, hg4⟩ := storeR1 (A' := D3) (n' := F.l.length) (c' := c3) (bad' := F.bad) (k4.later hL3); obtain ⟨W4, hst6, k64, hg6⟩ := storeSaid (blank_wf 6) hwfF ((k6.later hL3).grown hg4 (fun e => by injection e with e; omega)))
      | (guard_target =~ wpList _ _ _ (_ :: _) _ _; refine wpList_store rfl 104 (.tmp 4) (.tmp 39) rfl (.pointer (some ⟨q4, 0, none⟩)) (.agg (rfV D3 F.l.length c3 F.bad)) rfl rfl hst4 ?_)
      | (guard_target =~ wpList _ _ _ (_ :: _) _ _; refine wpList_store rfl 29 (.tmp 6) (.tmp 40) rfl (.pointer (some ⟨q6, 0, none⟩)) (.agg (saidC F.s)) rfl rfl hst6 ?_)
      | fail)
    have hlow1 : Below w.heap.size w W3 := (hlow.trans (hL3.below.mono hlow.size)).grown hg4 (Nat.le_trans hlow.size hL3.size) (fun j e => by injection e with e; omega)
    have hlow2 : Below w.heap.size w W4 := hlow1.grown hg6 hlow1.size (fun j e => by injection e with e; omega)
    have kg2 : Row W4 g 29 (saidC (Ms.blank 0)) := ((kg.later hL3).grown hg4 (fun e => by injection e with e; omega)).grown hg6 (fun e => by injection e with e; omega)
    have k42 : Row W4 q4 104 (rfV D3 F.l.length c3 F.bad) := k43.grown hg6 (fun e => by injection e with e; omega)
    exact HREST.out _ _ _ _ _ _ _ _ _ _ _ _ _ _ _ _ _ _ _ _ _ _ _ _ _ _ _ hlow2 kg2 k42 k64
  by_cases x7 : x = 7
  · subst x7
    have hcl : Calls Tryz.prog 47 #[.agg (rfV D l'.length c2 bad'), .agg (saidC (Ms.blank 7))] Wp fun e w' => Later Wp w' ∧ ∃ v', e = .returned (.tuple #[v', .agg (saidC F.s)]) ∧ RefV A l v' F.l F.bad := by
      have := rd_pay_any (r := R) HV.out hwfR (by rw [HKX.out]; exact (by decide : (7 : Int) = 6 ∨ (7 : Int) = 7 ∨ (7 : Int) = 8)) HLEN.out Wp HXW.out
      rw [show saidC R.s = saidC (Ms.blank _) by rw [HSS.out], ← HF.out] at this
      exact this
    have HCL := Lib.hid hcl
    have hld4 := HL4.out
    have hld6 := HL6.out
    clear hcl HF HV HKX HSS HLEN HXW HRT HL4 HL6 HPAR HPE
    go_wp2_with (first
      | (guard_target =~ wpList _ _ _ (_ :: _) _ _; refine wpList_load rfl 104 (.tmp 4) rfl (.pointer (some ⟨q4, 0, none⟩)) rfl hld4 ?_)
      | (guard_target =~ wpList _ _ _ (_ :: _) _ _; refine wpList_load rfl 29 (.tmp 6) rfl (.pointer (some ⟨q6, 0, none⟩)) rfl hld6 ?_)
      | (go_at_call 47; refine HCL.out.mono ?_; clear HCL; rintro e Wc ⟨hL3, v, rfl, D3, c3, rfl, _, _, _⟩; obtain ⟨W3, hst4, k43, hg4⟩ := storeR1 (A' := D3) (n' := F.l.length) (c' := c3) (bad' := F.bad) (k4.later hL3); obtain ⟨W4, hst6, k64, hg6⟩ := storeSaid (blank_wf 7) hwfF ((k6.later hL3).grown hg4 (fun e => by injection e with e; omega)))
      | (guard_target =~ wpList _ _ _ (_ :: _) _ _; refine wpList_store rfl 104 (.tmp 4) (.tmp 39) rfl (.pointer (some ⟨q4, 0, none⟩)) (.agg (rfV D3 F.l.length c3 F.bad)) rfl rfl hst4 ?_)
      | (guard_target =~ wpList _ _ _ (_ :: _) _ _; refine wpList_store rfl 29 (.tmp 6) (.tmp 40) rfl (.pointer (some ⟨q6, 0, none⟩)) (.agg (saidC F.s)) rfl rfl hst6 ?_)
      | fail)
    have hlow1 : Below w.heap.size w W3 := (hlow.trans (hL3.below.mono hlow.size)).grown hg4 (Nat.le_trans hlow.size hL3.size) (fun j e => by injection e with e; omega)
    have hlow2 : Below w.heap.size w W4 := hlow1.grown hg6 hlow1.size (fun j e => by injection e with e; omega)
    have kg2 : Row W4 g 29 (saidC (Ms.blank 0)) := ((kg.later hL3).grown hg4 (fun e => by injection e with e; omega)).grown hg6 (fun e => by injection e with e; omega)
    have k42 : Row W4 q4 104 (rfV D3 F.l.length c3 F.bad) := k43.grown hg6 (fun e => by injection e with e; omega)
    exact HREST.out _ _ _ _ _ _ _ _ _ _ _ _ _ _ _ _ _ _ _ _ _ _ _ _ _ _ _ hlow2 kg2 k42 k64
  by_cases x8 : x = 8
  · subst x8
    have hcl : Calls Tryz.prog 47 #[.agg (rfV D l'.length c2 bad'), .agg (saidC (Ms.blank 8))] Wp fun e w' => Later Wp w' ∧ ∃ v', e = .returned (.tuple #[v', .agg (saidC F.s)]) ∧ RefV A l v' F.l F.bad := by
      have := rd_pay_any (r := R) HV.out hwfR (by rw [HKX.out]; exact (by decide : (8 : Int) = 6 ∨ (8 : Int) = 7 ∨ (8 : Int) = 8)) HLEN.out Wp HXW.out
      rw [show saidC R.s = saidC (Ms.blank _) by rw [HSS.out], ← HF.out] at this
      exact this
    have HCL := Lib.hid hcl
    have hld4 := HL4.out
    have hld6 := HL6.out
    clear hcl HF HV HKX HSS HLEN HXW HRT HL4 HL6 HPAR HPE
    go_wp2_with (first
      | (guard_target =~ wpList _ _ _ (_ :: _) _ _; refine wpList_load rfl 104 (.tmp 4) rfl (.pointer (some ⟨q4, 0, none⟩)) rfl hld4 ?_)
      | (guard_target =~ wpList _ _ _ (_ :: _) _ _; refine wpList_load rfl 29 (.tmp 6) rfl (.pointer (some ⟨q6, 0, none⟩)) rfl hld6 ?_)
      | (go_at_call 47; refine HCL.out.mono ?_; clear HCL; rintro e Wc ⟨hL3, v, rfl, D3, c3, rfl, _, _, _⟩; obtain ⟨W3, hst4, k43, hg4⟩ := storeR1 (A' := D3) (n' := F.l.length) (c' := c3) (bad' := F.bad) (k4.later hL3); obtain ⟨W4, hst6, k64, hg6⟩ := storeSaid (blank_wf 8) hwfF ((k6.later hL3).grown hg4 (fun e => by injection e with e; omega)))
      | (guard_target =~ wpList _ _ _ (_ :: _) _ _; refine wpList_store rfl 104 (.tmp 4) (.tmp 39) rfl (.pointer (some ⟨q4, 0, none⟩)) (.agg (rfV D3 F.l.length c3 F.bad)) rfl rfl hst4 ?_)
      | (guard_target =~ wpList _ _ _ (_ :: _) _ _; refine wpList_store rfl 29 (.tmp 6) (.tmp 40) rfl (.pointer (some ⟨q6, 0, none⟩)) (.agg (saidC F.s)) rfl rfl hst6 ?_)
      | fail)
    have hlow1 : Below w.heap.size w W3 := (hlow.trans (hL3.below.mono hlow.size)).grown hg4 (Nat.le_trans hlow.size hL3.size) (fun j e => by injection e with e; omega)
    have hlow2 : Below w.heap.size w W4 := hlow1.grown hg6 hlow1.size (fun j e => by injection e with e; omega)
    have kg2 : Row W4 g 29 (saidC (Ms.blank 0)) := ((kg.later hL3).grown hg4 (fun e => by injection e with e; omega)).grown hg6 (fun e => by injection e with e; omega)
    have k42 : Row W4 q4 104 (rfV D3 F.l.length c3 F.bad) := k43.grown hg6 (fun e => by injection e with e; omega)
    exact HREST.out _ _ _ _ _ _ _ _ _ _ _ _ _ _ _ _ _ _ _ _ _ _ _ _ _ _ _ hlow2 kg2 k42 k64
  have d1 : decide (x = 1) = false := decide_eq_false x1
  have d6 : decide (x = 6) = false := decide_eq_false x6
  have d7 : decide (x = 7) = false := decide_eq_false x7
  have d8 : decide (x = 8) = false := decide_eq_false x8
  have hcl : Calls Tryz.prog 48 #[.agg (rfV D l'.length c2 bad'), .agg (saidC (Ms.blank x))] Wp fun e w' => Later Wp w' ∧ ∃ v', e = .returned (.tuple #[v', .agg (saidC F.s)]) ∧ RefV A l v' F.l F.bad := by
    have := rd_rest_any (r := R) HV.out hwfR (by rw [HKX.out]; exact (⟨HRG2.out, x1, x6, x7, x8⟩ : (0 ≤ x ∧ x ≤ 14) ∧ x ≠ 1 ∧ x ≠ 6 ∧ x ≠ 7 ∧ x ≠ 8)) HLEN.out Wp HXW.out
    rw [show saidC R.s = saidC (Ms.blank _) by rw [HSS.out], ← HF.out] at this
    exact this
  have HCL := Lib.hid hcl
  have hld4 := HL4.out
  have hld6 := HL6.out
  clear hcl HF HV HKX HSS HLEN HXW HRT HL4 HL6 HPAR HPE
  go_wp2_with (first
    | (guard_target =~ wpList _ _ _ (_ :: _) _ _; refine wpList_load rfl 104 (.tmp 4) rfl (.pointer (some ⟨q4, 0, none⟩)) rfl hld4 ?_)
    | (guard_target =~ wpList _ _ _ (_ :: _) _ _; refine wpList_load rfl 29 (.tmp 6) rfl (.pointer (some ⟨q6, 0, none⟩)) rfl hld6 ?_)
    | (go_at_call 48; refine HCL.out.mono ?_; clear HCL; rintro e Wc ⟨hL3, v, rfl, D3, c3, rfl, _, _, _⟩; obtain ⟨W3, hst4, k43, hg4⟩ := storeR1 (A' := D3) (n' := F.l.length) (c' := c3) (bad' := F.bad) (k4.later hL3); obtain ⟨W4, hst6, k64, hg6⟩ := storeSaid (blank_wf x) hwfF ((k6.later hL3).grown hg4 (fun e => by injection e with e; omega)))
    | (guard_target =~ wpList _ _ _ (_ :: _) _ _; refine wpList_store rfl 104 (.tmp 4) (.tmp 21) rfl (.pointer (some ⟨q4, 0, none⟩)) (.agg (rfV D3 F.l.length c3 F.bad)) rfl rfl hst4 ?_)
    | (guard_target =~ wpList _ _ _ (_ :: _) _ _; refine wpList_store rfl 29 (.tmp 6) (.tmp 22) rfl (.pointer (some ⟨q6, 0, none⟩)) (.agg (saidC F.s)) rfl rfl hst6 ?_)
    | fail)
  have hlow1 : Below w.heap.size w W3 := (hlow.trans (hL3.below.mono hlow.size)).grown hg4 (Nat.le_trans hlow.size hL3.size) (fun j e => by injection e with e; omega)
  have hlow2 : Below w.heap.size w W4 := hlow1.grown hg6 hlow1.size (fun j e => by injection e with e; omega)
  have kg2 : Row W4 g 29 (saidC (Ms.blank 0)) := ((kg.later hL3).grown hg4 (fun e => by injection e with e; omega)).grown hg6 (fun e => by injection e with e; omega)
  have k42 : Row W4 q4 104 (rfV D3 F.l.length c3 F.bad) := k43.grown hg6 (fun e => by injection e with e; omega)
  exact HREST.out _ _ _ _ _ _ _ _ _ _ _ _ _ _ _ _ _ _ _ _ _ _ _ _ _ _ _ hlow2 kg2 k42 k64
end Go.Proofs.YtcajhdmppfiaeaaGreat
namespace Go.Proofs.YtcajhdmppfiaeaaGreat
open Go.RowKit Ms
theorem own_void (w : World) (U : TypeId) (base : Nat) (hb : base ≤ w.heap.size) : Own U (w.alloc (.cells #[] U)) base (.slice (some ⟨w.heap.size, 0, none⟩) 0 0) [] :=
  ⟨rfl, .inr ⟨_, 0, _, rfl, hb, heap_alloc_new w _, Nat.le_refl _, by decide, rfl, rfl⟩⟩
end Go.Proofs.YtcajhdmppfiaeaaGreat
namespace Go.Proofs.YtcajhdmppfiaeaaGreat
open Go.RowKit Ms
namespace Ms
structure Tell where
  ch : List UInt8
  s : Said
deriving DecidableEq
def Tell.wf (t : Tell) : Prop := t.ch.length = 32 ∧ t.s.wf
def noTold : Tell := ⟨z32, blank 0⟩
theorem noTold_wf : noTold.wf := ⟨z32_len, blank_wf 0⟩
def toldC (t : Tell) : Array Value := hC t.ch ++ saidC t.s
theorem toldC_size {t : Tell} (h : t.wf) : (toldC t).size = 334 := by
  unfold toldC
  rw [Array.size_append, hC_size _ (Nat.le_of_eq h.1), saidC_size h.2]
theorem toldC_h {t : Tell} (h : t.wf) (i : Nat) (hi : i < 32) : (toldC t)[0 + i]? = (hC t.ch)[i]? := by
  unfold toldC
  rw [Nat.zero_add, Array.getElem?_append_left (by rw [hC_size _ (Nat.le_of_eq h.1)]; exact hi)]
theorem toldC_s {t : Tell} (h : t.wf) (i : Nat) : (toldC t)[32 + i]? = (saidC t.s)[i]? := by
  unfold toldC
  rw [Array.getElem?_append_right (by rw [hC_size _ (Nat.le_of_eq h.1)]; omega), hC_size _ (Nat.le_of_eq h.1), Nat.add_sub_cancel_left]
theorem toldC_one (t : Tell) : (toldC t).all (·.oneCell') = true := by
  rw [Array.all_eq_true_iff_forall_mem]
  intro v hv
  unfold toldC at hv
  rcases Array.mem_append.1 hv with h | h
  · exact Array.all_eq_true_iff_forall_mem.1 (hC_one _) v h
  · exact Array.all_eq_true_iff_forall_mem.1 (saidC_one _) v h
end Ms
theorem infoTold : (Tryz.prog.info? 48).map (·.size) = some 334 := by kernel_rfl
section
variable {w : World} {g : Nat} {t : Tell}
theorem allocTold (w : World) : (Instr.alloc 48 true (.tuple #[])).run Tryz.prog w = .ok (.pointer (some ⟨w.heap.size, 0, none⟩)) (w.alloc (.cells (toldC noTold) 48)) := by kernel_rfl
theorem boxTold (h : t.wf) (w : World) : (Instr.box 48 (.agg (toldC t))).run Tryz.prog w = .ok (.pointer (some ⟨w.heap.size, 0, none⟩)) (w.alloc (.cells (toldC t) 48)) := run_box_row w _ _ (by rw [toldC_size h]; exact infoTold)
theorem loadTold (h : t.wf) (hr : Row w g 48 (toldC t)) : (Instr.loadAt 48 (.pointer (some ⟨g, 0, none⟩))).run Tryz.prog w = .ok (.agg (toldC t)) w :=
  run_load_row hr Tryz.underlying48 rfl (by rw [toldC_size h]; exact infoTold)
theorem storeTold {t' : Tell} (h : t.wf) (h' : t'.wf) (hr : Row w g 48 (toldC t)) : ∃ w', (Instr.storeAt 48 (.pointer (some ⟨g, 0, none⟩)) (.agg (toldC t'))).run Tryz.prog w = .ok () w' ∧ Row w' g 48 (toldC t') ∧ w.grownBy w' (some g) := by
  have h1 := toldC_size h
  have h2 := toldC_size h'
  refine ⟨_, run_store_row hr (toldC t') (by rw [h2]; exact infoTold) (by rw [h1, h2]; decide) (toldC_one _), ?_, grown_setCells _ _ _⟩
  have hr2 := row_setCells (toldC t').toList 0 w _ hr
  rw [setFrom_whole _ _ (by rw [Array.length_toList, h1, h2]), Array.toArray_toList] at hr2
  exact hr2
theorem newTold (w : World) {t : Tell} (h : t.wf) : ∃ w', (Instr.storeAt 48 (.pointer (some ⟨w.heap.size, 0, none⟩)) (.agg (toldC t))).run Tryz.prog (w.alloc (.cells (toldC noTold) 48)) = .ok () w' ∧ Row w' w.heap.size 48 (toldC t) ∧ Later w w' := by
  obtain ⟨w', h1, h2, h3⟩ := storeTold noTold_wf h (Row.new w 48 (toldC noTold))
  exact ⟨w', h1, h2, Below.grown ((Later.refl w).alloc _) h3 (by simp only [World.size_alloc]; omega) (fun j e => by cases e; exact Nat.le_refl _)⟩
theorem loadToldAt {T : TypeId} {cs : Array Value} {o : Nat} (h : t.wf) (hr : Row w g T cs) (hp : ∀ i, i < 334 → cs[o + i]? = (toldC t)[i]?) : (Instr.loadAt 48 (.pointer (some ⟨g, o, none⟩))).run Tryz.prog w = .ok (.agg (toldC t)) w :=
  run_load_part hr (fun i hi => hp i (by rw [toldC_size h] at hi; exact hi)) Tryz.underlying48 rfl (by rw [toldC_size h]; exact infoTold)
theorem loadToldSAt {T : TypeId} {cs : Array Value} {o : Nat} (h : t.wf) (hr : Row w g T cs) (hp : ∀ i, i < 334 → cs[o + i]? = (toldC t)[i]?) : (Instr.loadAt 29 (.pointer (some ⟨g, o + 32, none⟩))).run Tryz.prog w = .ok (.agg (saidC t.s)) w :=
  run_load_part hr (fun i hi => by
    rw [saidC_size h.2] at hi
    rw [Nat.add_assoc, hp (32 + i) (by omega), toldC_s h]) Tryz.underlying29 rfl (by rw [saidC_size h.2]; exact infoSaid)
theorem loadToldS (h : t.wf) (hr : Row w g 48 (toldC t)) : (Instr.loadAt 29 (.pointer (some ⟨g, 32, none⟩))).run Tryz.prog w = .ok (.agg (saidC t.s)) w := by
  have := loadToldSAt (o := 0) h hr (fun i _ => by rw [Nat.zero_add])
  rwa [Nat.zero_add] at this
theorem loadToldH (h : t.wf) (hr : Row w g 48 (toldC t)) : (Instr.loadAt 24 (.pointer (some ⟨g, 0, none⟩))).run Tryz.prog w = .ok (.agg (hC t.ch)) w := by
  have hz := hC_size _ (Nat.le_of_eq h.1)
  exact run_load_part hr (fun i hi => toldC_h h i (by omega)) Tryz.underlying24 rfl (by rw [hz]; exact infoH)
theorem fieldTold0 {o : Nat} {W : World} : (Instr.fieldAt 48 (.pointer (some ⟨g, o, none⟩)) 0).run Tryz.prog W = .ok (.pointer (some ⟨g, o, none⟩)) W := by
  go_simp
theorem fieldTold1 {o : Nat} {W : World} : (Instr.fieldAt 48 (.pointer (some ⟨g, o, none⟩)) 1).run Tryz.prog W = .ok (.pointer (some ⟨g, o + 32, none⟩)) W := by
  go_simp
end
theorem buildTold0 (f k : Nat → Value) (w : World) : (Instr.build 48 #[(0, .agg ((List.range 32).map f).toArray), (1, .agg ((List.range 302).map k).toArray)]).run Tryz.prog w = .ok (.agg ((List.range 32).map f ++ (List.range 302).map k).toArray) w := by kernel_rfl
theorem buildTold {h : List UInt8} {s : Said} (hh : h.length = 32) (hs : s.wf) (w : World) : (Instr.build 48 #[(0, .agg (hC h)), (1, .agg (saidC s))]).run Tryz.prog w = .ok (.agg (toldC ⟨h, s⟩)) w := by
  unfold toldC
  simp only
  rw [array_range (hC h) 32 (hC_size _ (Nat.le_of_eq hh)), array_range (saidC s) 302 (saidC_size hs), List.append_toArray]
  exact buildTold0 _ _ w
theorem buildToldZ (w : World) : (Instr.build 48 #[]).run Tryz.prog w = .ok (.agg (toldC noTold)) w := by kernel_rfl
theorem flds_told : (Tryz.prog.fieldsOf 48).toList = [fld 48 0, fld 48 1] := by kernel_rfl
theorem partSaid0 (cs : Array Value) (off : Nat) (w : World) : (part 29 cs off).run Tryz.prog w = .ok (.agg (cs.extract off (off + 302))) w := by
  unfold part
  go_simp
theorem partToldH {t : Tell} (h : t.wf) (w : World) : (part 24 (toldC t) 0).run Tryz.prog w = .ok (.agg (hC t.ch)) w :=
  partHash h.1 (by rw [toldC_size h]; decide) (toldC_h h) w
theorem partToldS {t : Tell} (h : t.wf) (w : World) : (part 29 (toldC t) 32).run Tryz.prog w = .ok (.agg (saidC t.s)) w := by
  rw [partSaid0, extract_of (saidC_size h.2) (by rw [toldC_size h]; decide) (fun j _ => toldC_s h j)]
def tdEq (t t' : Tell) : Bool := (t.ch == t'.ch) && (decide (t.s = t'.s) && true)
theorem tdEq_iff (t t' : Tell) : tdEq t t' = decide (t = t') := by
  unfold tdEq
  obtain ⟨a, b⟩ := t
  obtain ⟨c, d⟩ := t'
  rw [Bool.eq_iff_iff]
  simp only [Bool.and_eq_true, beq_iff_eq, and_true, decide_eq_true_eq, Tell.mk.injEq]
theorem eqTold (d : Nat) {t t' : Tell} (h : t.wf) (h' : t'.wf) (w : World) : (Op.equalIn (d + 6) 48 (.agg (toldC t)) (.agg (toldC t'))).run Tryz.prog w = .ok (decide (t = t')) w := by
  rw [run_equalIn_struct w (d + 5) _ _ _ (by kernel_rfl) (by kernel_rfl), flds_told, ← tdEq_iff]
  unfold tdEq
  refine eqFields_cons _ _ _ _ _ (T := 24) (off := 0) (by kernel_rfl) (by kernel_rfl) (by kernel_rfl) (partToldH h) (partToldH h') (eqHash (d + 3) _ _ h.1 h'.1) ?_
  refine eqFields_cons _ _ _ _ _ (T := 29) (off := 32) (by kernel_rfl) (by kernel_rfl) (by kernel_rfl) (partToldS h) (partToldS h') (eqSaid d h.2 h'.2) ?_
  exact eqFields_nil _ _ _ _
theorem neqTold {t t' : Tell} (h : t.wf) (h' : t'.wf) (w : World) : (binOp .neq 48 (.agg (toldC t)) (.agg (toldC t'))).run Tryz.prog w = .ok (.bool (!decide (t = t'))) w := by
  rw [run_neq_struct, eqTold 9994 h h']
  rfl
theorem eqgTold (b : BinOp) (x y : Operand) (xs ys : Array Value) (w : World) : (eqGuard b 48 x y (.agg xs) (.agg ys)).run Tryz.prog w = .ok () w := run_eqGuard_agg w b _ x y xs ys (by kernel_rfl)
end Go.Proofs.YtcajhdmppfiaeaaGreat
namespace Go.Proofs.YtcajhdmppfiaeaaGreat
open Go.RowKit Ms
namespace Ms
def okT (l : List UInt8) : Bool := decide (32 ≤ l.length) && okB (l.drop 32)
def toldOf (l : List UInt8) : Tell := if okT l then ⟨l.take 32, parse (l.drop 32)⟩ else noTold
def toldE (l : List UInt8) : Int := if okT l then 0 else 210
theorem toldOf_wf (l : List UInt8) : (toldOf l).wf := by
  unfold toldOf
  split
  · rename_i h
    unfold okT at h
    rw [Bool.and_eq_true, decide_eq_true_eq] at h
    exact ⟨by show (l.take 32).length = 32; rw [List.length_take]; omega, parse_wf _⟩
  · exact noTold_wf
def okFr (b : List UInt8) : Bool := Wr.goes 0 b && okT (Wr.splitR b).1
def readT (b : List UInt8) : Tell := if Wr.goes 0 b then toldOf (Wr.splitR b).1 else noTold
def readN (b : List UInt8) : Int := if okFr b then (Wr.splitR b).2.1 else 0
def readE (b : List UInt8) : Int := if Wr.goes 0 b then toldE (Wr.splitR b).1 else (Wr.splitR b).2.2
theorem readT_wf (b : List UInt8) : (readT b).wf := by
  unfold readT
  split
  · exact toldOf_wf _
  · exact noTold_wf
end Ms
theorem op_arr {P : Program} {Q : Exit → Act → World → Prop} {o : Oper} {a : Act} {W : World} {R : Value → World → Prop} {t : TypeId} {x : Operand} {vx v : Value} (ho : o.op = .sliceToArrayPointer t x) (hx : a.eval x = vx) (hr : (Instr.arrayAt t vx).run P W = .ok v W) (h : R v W) : o.wp P a W (fun a' W' => ∃ v, a' = a.put o.dst v ∧ Later W W' ∧ R v W') Q := by
  refine op_value (v := v) (W' := W) ?_ (Later.refl _) h
  unfold execOp
  simp only [ho, hx, hr, Sem.run_bind, Sem.run_pure, Result.andThen_ok]
theorem run_arr32 {A : Option Addr} {c : Nat} (W : World) : (Instr.arrayAt 24 (.slice A 32 c)).run Tryz.prog W = .ok (.pointer A) W := by
  simp [Instr.arrayAt, run_underlying Tryz.underlying24]
theorem load_rd32 {A : Option Addr} {l : List UInt8} {W : World} (hl : 32 ≤ l.length) (hr : Rd W A l) : (Instr.loadAt 24 (.pointer A)).run Tryz.prog W = .ok (.agg (hC (l.take 32))) W := by
  obtain ⟨b, o, rfl, hc⟩ := hr (by intro e; subst e; simp at hl)
  have h32 : (l.take 32).length = 32 := by rw [List.length_take]; omega
  refine loadHr h32 ?_
  rw [hC_full _ h32]
  intro j v hv
  rw [List.getElem?_map] at hv
  rcases Nat.lt_or_ge j 32 with h | h
  · rw [List.getElem?_eq_getElem (by rw [h32]; exact h)] at hv
    rw [← hv, hc j (by omega)]
    simp [byteV]
  · rw [List.getElem?_eq_none (by rw [h32]; exact h)] at hv
    cases hv
structure TL (w : World) (q q4 : Nat) (A : Option Addr) (l : List UInt8) (m : Nat) (W : World) : Prop where
  low : Below w.heap.size w W
  row : Row W q 48 (toldC (if m = 0 then noTold else ⟨l.take 32, parse (l.drop 32)⟩))
  sd : Row W q4 29 (saidC (parse (l.drop 32)))
  rd : Rd W A l
  le : w.heap.size ≤ q
theorem TL.later {w W W' : World} {q q4 m : Nat} {A : Option Addr} {l : List UInt8} (h : TL w q q4 A l m W) (hL : Later W W') : TL w q q4 A l m W' :=
  ⟨h.low.trans (hL.below.mono h.low.size), h.row.later hL, h.sd.later hL, h.rd.later hL, h.le⟩
set_option maxRecDepth 100000 in
set_option maxHeartbeats 4000000 in
theorem told_any (A : Option Addr) (n c : Nat) (l : List UInt8) (w : World) (hn : l.length = n) (hc : n ≤ c) (hcm : c ≤ 9223372036854775807) (hnm : n ≤ 140737488355328) (hX : Rd w A l) :
    Calls Tryz.prog 53 #[.slice A n c] w fun e w' => e = .returned (.tuple #[.agg (toldC (toldOf l)), .int .i64 (toldE l)]) ∧ Below w.heap.size w w' := by
  have k1 := Row.new w 48 (toldC noTold)
  have hb := below_new w (.cells (toldC noTold) 48)
  refine Calls.post fun Φ HΦ => ?_
  have hne : ∀ b o, A = some ⟨b, o, none⟩ → l ≠ [] → b < w.heap.size := fun b o e hne => hX.lt e hne
  go_enter Tryz.func53, Tryz.ntmps53
  go_upto_region 1 with (first
    | (with_reducible refine wpList_alloc rfl 48 rfl (allocTold _) ?_)
    | fail)
  obtain ⟨q, hq⟩ : ∃ q, q = w.heap.size := ⟨_, rfl⟩
  rw [← hq] at k1 ⊢
  have hX1 := hX.later hb
  have HQ := Lib.hid hq
  clear hq hX
  generalize w.alloc (.cells (toldC noTold) 48) = w1 at *
  by_cases h32 : n < 32
  · have d1 : decide ((n : Int) < 32) = true := decide_eq_true (by omega)
    have d2 : decide (n < 32) = true := decide_eq_true h32
    have hno : okT l = false := by unfold okT; rw [decide_eq_false (by omega)]; rfl
    have hld := loadTold noTold_wf k1
    obtain ⟨w2, hst, k2, hg⟩ := storeTold noTold_wf noTold_wf k1
    have hb2 := hb.grown hg hb.size (fun j e => by injection e with e; have := HQ.out; omega)
    clear hg k1 hX1 hne
    go_wp2_with (first
      | (guard_target =~ wpList _ _ _ (_ :: _) _ _; refine wpList_load rfl 48 (.tmp 2) rfl (.pointer (some ⟨q, 0, none⟩)) rfl hld ?_)
      | (guard_target =~ wpList _ _ _ (_ :: _) _ _; refine wpList_store rfl 48 (.tmp 2) (.tmp 8) rfl (.pointer (some ⟨q, 0, none⟩)) (.agg (toldC noTold)) rfl rfl hst ?_)
      | fail)
    exact bodyPost_ret (results_cell_tmp rfl _ _ q 48 (toldC noTold) (0, 0) _ (.int .i64 210) rfl rfl k2 Tryz.underlying48 rfl (by rw [toldC_size noTold_wf]; exact infoTold)) rfl (HΦ.out _ _ ⟨by unfold toldOf toldE; rw [hno]; rfl, hb2⟩)
  · have d1 : decide ((n : Int) < 32) = false := decide_eq_false (by omega)
    have d2 : decide (n < 32) = false := decide_eq_false h32
    obtain ⟨D, hs1, hD, _⟩ := run_slice_from2 (P := Tryz.prog) (t := 32) (U := 5) (A := A) (n := n) (ca := c) (k := 32) Tryz.underlying32 byteInfo (by omega) hc
    have hs1' : ∀ w : World, (Instr.slice 32 (.slice A n c) (some (.int .i64 32)) none none).run Tryz.prog w = .ok (.slice D (n - 32) (c - 32)) w := hs1
    have hdl : (l.drop 32).length = n - 32 := by rw [List.length_drop, hn]
    have hp := mparse_any D (n - 32) (c - 32) (l.drop 32) w1 hdl (by omega) (hD w1 l hn hX1)
    obtain ⟨P, hP⟩ : ∃ P, Ms.parse (l.drop 32) = P := ⟨_, rfl⟩
    have hPw : P.wf := hP ▸ parse_wf _
    obtain ⟨ok, hok⟩ : ∃ b, okB (l.drop 32) = b := ⟨_, rfl⟩
    have hE : Ms.parseE (l.drop 32) = if ok = true then 0 else 210 := by rw [← hok]; rfl
    have hoT : okT l = ok := by unfold okT; rw [hok, decide_eq_true (by omega : 32 ≤ l.length)]; rfl
    have hTO : toldOf l = if ok = true then ⟨l.take 32, P⟩ else noTold := by unfold toldOf; rw [hoT, hP]
    have hTE : toldE l = if ok = true then 0 else 210 := by unfold toldE; rw [hoT]
    have ht32 : (l.take 32).length = 32 := by rw [List.length_take]; omega
    rw [hTO, hTE] at HΦ
    rw [hP, hE] at hp
    have HP := Lib.hid hp
    have HPP := Lib.hid hP
    clear hp hok hE hoT hTO hTE hP hD
    go_upto_region 4 with (first
      | (go_at_call 15; refine HP.out.mono ?_; rintro e w2 ⟨rfl, hb2⟩; obtain ⟨w3, hst, x3, hL3⟩ := newSaid w2 hPw)
      | (with_reducible refine wpList_alloc rfl 29 rfl (allocSaid _) ?_)
      | (guard_target =~ wpList _ _ _ (_ :: _) _ _; refine wpList_store rfl 29 (.tmp 4) (.tmp 13) rfl (.pointer (some ⟨w2.heap.size, 0, none⟩)) (.agg (saidC P)) rfl rfl hst ?_)
      | fail)
    obtain ⟨q4, hq4⟩ : ∃ q, q = w2.heap.size := ⟨_, rfl⟩
    rw [← hq4] at x3 ⊢
    have hL13 : Later w1 w3 := Later.step hb2 hL3
    have k3 := k1.later hL13
    have hb3 := Later.step hb hL13
    have hX3 := hX1.later hL13
    have hq4q : q < q4 := by have := k1.lt; have := hb2.size; omega
    clear hst hb2 hL3 hL13 k1 hb hX1 hs1 hs1' d1 d2 HP
    cases ok
    · have hld := loadTold noTold_wf k3
      obtain ⟨w4, hst, k4, hg⟩ := storeTold noTold_wf noTold_wf k3
      have hb4 := hb3.grown hg hb3.size (fun j e => by injection e with e; have := HQ.out; omega)
      clear hg k3 hX3 hne
      go_wp2_with (first
        | (guard_target =~ wpList _ _ _ (_ :: _) _ _; refine wpList_load rfl 48 (.tmp 2) rfl (.pointer (some ⟨q, 0, none⟩)) rfl hld ?_)
        | (guard_target =~ wpList _ _ _ (_ :: _) _ _; refine wpList_store rfl 48 (.tmp 2) (.tmp 17) rfl (.pointer (some ⟨q, 0, none⟩)) (.agg (toldC noTold)) rfl rfl hst ?_)
        | fail)
      exact bodyPost_ret (results_cell_tmp rfl _ _ q 48 (toldC noTold) (0, 0) _ (.int .i64 210) rfl rfl k4 Tryz.underlying48 rfl (by rw [toldC_size noTold_wf]; exact infoTold)) rfl (HΦ.out _ _ ⟨rfl, hb4⟩)
    · go_upto_region 6 with fail
      have hTw : (⟨l.take 32, P⟩ : Tell).wf := ⟨ht32, hPw⟩
      have hA0 : TL w q q4 A l 0 w3 := ⟨hb3, by rw [if_pos rfl]; exact k3, by rw [HPP.out]; exact x3, hX3, Nat.le_of_eq HQ.out.symm⟩
      have HPW := Lib.hid hPw
      have HNE := Lib.hid hne
      have HTW := Lib.hid hTw
      have HT32 := Lib.hid ht32
      have HN := Lib.hid hn
      clear k3 x3 hX3 hb3 hne hTw ht32 hPw hn
      refine (wpIn_wide (n := 0)).1 ?_
      refine wpIn_region_chain wide_wide [.slice A n c, .slice A 32 c, .pointer A, .agg (hC (l.take 32)), .agg (saidC P), .agg (toldC ⟨l.take 32, P⟩), undef] [6] (TL w q q4 A l) (fun m W W' hL h => h.later hL) hA0 (by kernel_rfl) (by kernel_rfl) (by kernel_rfl) (by kernel_rfl) (by kernel_rfl) (by kernel_rfl) rfl (by decide) rfl ⟨?_, ?_, ?_, ?_, ?_, ?_, ?_, trivial⟩ ?_
      · exact chStep_val rfl (fun ac W m he hA => stepOk_want rfl (op_move rfl (he.keep (.tmp 0) (by kernel_rfl))))
      · exact chStep_val rfl (fun ac W m he hA => stepOk_want rfl (op_slice (W' := W) rfl (show ac.eval (.tmp 19) = .slice A n c from he.val 0 19 (by kernel_rfl) rfl rfl) rfl rfl rfl (run_slice_upto (k := 32) Tryz.underlying32 byteInfo (by omega) W) rfl))
      · exact chStep_val rfl (fun ac W m he hA => stepOk_want rfl (op_arr rfl (show ac.eval (.tmp 20) = .slice A 32 c from he.val 1 20 (by kernel_rfl) rfl rfl) (run_arr32 W) rfl))
      · exact chStep_val rfl (fun ac W m he hA => stepOk_want rfl (op_load rfl (show ac.eval (.tmp 21) = .pointer A from he.val 2 21 (by kernel_rfl) rfl rfl) (load_rd32 (by rw [HN.out]; omega) hA.rd) rfl))
      · exact chStep_val rfl (fun ac W m he hA => stepOk_want rfl (op_load rfl (he.keep (.tmp 4) (by kernel_rfl)) (by have := loadSaid (by rw [HPP.out]; exact HPW.out) hA.sd; rwa [HPP.out] at this) rfl))
      · exact chStep_val rfl (fun ac W m he hA => by
          refine stepOk_want rfl ?_
          have e3 : ac.eval (.tmp 22) = .agg (hC (l.take 32)) := he.val 3 22 (by kernel_rfl) rfl rfl
          have e4 : ac.eval (.tmp 23) = .agg (saidC P) := he.val 4 23 (by kernel_rfl) rfl rfl
          exact op_buildR rfl (by simp only [List.map_toArray, List.map_cons, List.map_nil, e3, e4]) (buildTold HT32.out HPW.out W) rfl)
      · refine chStep_put (k := 0) rfl (.inl rfl) (fun ac W he hA => ⟨rfl, ?_⟩)
        have hrow := hA.row
        rw [if_pos rfl] at hrow
        obtain ⟨W', hr, h7, h8⟩ := storeTold noTold_wf HTW.out hrow
        exact op_storeK rfl (he.keep (.tmp 2) (by kernel_rfl)) (show ac.eval (.tmp 24) = .agg (toldC ⟨l.take 32, P⟩) from he.val 5 24 (by kernel_rfl) rfl rfl) hr ⟨undef, rfl, hA.low.grown h8 hA.low.size (fun j e => by injection e with e; have := hA.le; omega), by rw [if_neg (by omega), HPP.out]; exact h7, hA.sd.grown h8 (fun e => by injection e with e; omega), hA.rd.grown h8 (fun b o e hne e2 => by have := HNE.out b o e hne; injection e2 with e2; have := HQ.out; omega), hA.le⟩
      intro xs W hA hx hk hgt
      have hA : TL w q q4 A l 1 W := hA
      refine last_assign rfl rfl ?_
      have hlow := hA.low
      have hrow := hA.row
      rw [if_neg (by omega), HPP.out] at hrow
      clear hx hk hgt hA hA0
      simp only [initL, lastL, putL, Nat.reduceAdd, Act.put, List.setIfInBounds_toArray, List.set_cons_succ, List.set_cons_zero]
      go_wp2_with fail
      exact bodyPost_ret (results_cell_tmp rfl _ _ q 48 (toldC ⟨l.take 32, P⟩) (0, 0) _ (.int .i64 0) rfl rfl hrow Tryz.underlying48 rfl (by rw [toldC_size HTW.out]; exact infoTold)) rfl (HΦ.out _ _ ⟨rfl, hlow⟩)
end Go.Proofs.YtcajhdmppfiaeaaGreat
namespace Go.Proofs.YtcajhdmppfiaeaaGreat
open Go.RowKit Ms
namespace Ms
def rawOf (t : Tell) : List UInt8 := Wr.frame (t.ch ++ body t.s)
def rawR (t : Tell) : List UInt8 := if right t.s then rawOf t else []
theorem body_len {s : Said} (hs : s.wf) (hr : Ms.right s = true) : 0 < (body s).length ∧ (body s).length ≤ 5000 := by
  have h1 := laid_le hs (right_route hr) (flds s.kind) (flds_hash s.kind)
  have h2 := flds_len s.kind
  have h3 := Wr.bytes_le s.kind.toNat
  have h4 : 0 < (Wr.bytes s.kind.toNat).length := by rw [Wr.bytes_len]; split <;> (try split) <;> (try split) <;> omega
  unfold body
  rw [List.length_append]
  omega
end Ms
theorem rd_told {w : World} {g : Nat} {t : Tell} (h : t.wf) (hr : Row w g 48 (toldC t)) : Rd w (some ⟨g, 0, none⟩) t.ch := fun _ =>
  ⟨g, 0, rfl, fun i hi => by
    have hi' : i < 32 := by rw [← h.1]; exact hi
    rw [hr.cell, toldC_h h i hi', hC_get t.ch i hi (Nat.le_of_eq h.1)]⟩
set_option maxRecDepth 100000 in
set_option maxHeartbeats 2000000 in
theorem mraw_any (t : Tell) (ht : t.wf) (hm : t.s.route.length ≤ 9223372036854775807) (w : World) :
    Calls Tryz.prog 17 #[.agg (toldC t)] w fun e w' => ∃ v, e = .returned (.tuple #[v, .int .i64 (bodyE t.s)]) ∧ Own 5 w' w.heap.size v (rawR t) ∧ Below w.heap.size w w' := by
  have k1 := Row.new w 48 (toldC t)
  have hb := below_new w (.cells (toldC t) 48)
  have hbx := boxTold ht w
  have hbody := fun W => mbody_any t.s ht.2 hm W
  obtain ⟨r, hr⟩ : ∃ r, Ms.right t.s = r := ⟨_, rfl⟩
  have hE : bodyE t.s = if r = true then 0 else 2 := by unfold bodyE; rw [hr]
  have hR : rawR t = if r = true then rawOf t else [] := by unfold rawR; rw [hr]
  have hB : bodyR t.s = if r = true then body t.s else [] := by unfold bodyR; rw [hr]
  have hbl := body_len ht.2 (s := t.s)
  rw [hr] at hbl
  rw [hE, hR]
  rw [hE, hB] at hbody
  have HBODY := Lib.hid hbody
  have HHT := Lib.hid ht
  clear hbody hE hR hB hr ht hm
  refine Calls.post fun Φ HΦ => ?_
  go_enter Tryz.func17, Tryz.ntmps17
  go_upto_region 1 with fail
  obtain ⟨g, hg⟩ : ∃ q, q = w.heap.size := ⟨_, rfl⟩
  rw [← hg] at k1 ⊢
  have HG := Lib.hid hg
  clear hbx hg
  generalize w.alloc (.cells (toldC t) 48) = w1 at *
  have hld := loadToldS HHT.out k1
  have hf := fun W => fieldTold1 (g := g) (o := 0) (W := W)
  have HF := Lib.hid hf
  clear hf
  go_upto_region 2 with (first
    | (guard_target =~ wpList _ _ _ (_ :: _) _ _; refine wpList_load rfl 29 (.tmp 7) rfl (.pointer (some ⟨g, 32, none⟩)) rfl hld ?_)
    | (go_at_call 10; refine (HBODY.out _).mono ?_; rintro e w2 ⟨v2, rfl, hown, hL2⟩; obtain ⟨A2, c2, rfl, hc2, hcm2, hrd2⟩ := hown.slice)
    | fail)
  have k2 := k1.belowAll hL2
  have hb2 := Later.step hb hL2
  clear hld hown k1 hb HBODY
  cases r
  · go_wp2_with fail
    exact HΦ.out _ _ ⟨_, rfl, Own.nil _ _ _, hb2⟩
  · go_upto_region 4 with fail
    obtain ⟨h0, h5⟩ := hbl rfl
    obtain ⟨b, hbb⟩ : ∃ b, body t.s = b := ⟨_, rfl⟩
    have hraw : rawOf t = Wr.frame (t.ch ++ b) := by unfold rawOf; rw [hbb]
    have hc2 : (body t.s).length ≤ c2 := hc2
    have hrd2 : Rd w2 A2 (body t.s) := hrd2
    rw [hbb] at hc2 hrd2 ⊢
    replace HΦ : Hid (∀ e w', (∃ v, e = .returned (.tuple #[v, .int .i64 0]) ∧ Own 5 w' w.heap.size v (rawOf t) ∧ Below w.heap.size w w') → Φ e w') := HΦ
    rw [hraw] at HΦ
    rw [hbb] at h0 h5
    have HRAW := Lib.hid hraw
    have hrch := rd_told HHT.out k2
    have h32 := HHT.out.1
    clear hbl hbb hraw HRAW
    obtain ⟨N, hN⟩ : ∃ N, b.length = N := ⟨_, rfl⟩
    rw [hN] at hc2 h0 h5 ⊢
    have hflat : ([t.ch, b] : List (List UInt8)).flatten = t.ch ++ b := by simp
    have hlen : (t.ch ++ b).length = N + 32 := by rw [List.length_append, hN, h32]; omega
    have hcc := concat_any (some ⟨w2.heap.size, 0, none⟩) 2 2 [t.ch, b] (w2.alloc (.cells #[.slice (some ⟨g, 0, none⟩) 32 32, .slice A2 N c2] 32)) rfl (by omega) (by rw [hflat, hlen]; omega) (Rds.two_at _ rfl hrch h32 hrd2 hN)
    rw [hflat] at hcc
    have HLEN := Lib.hid hlen
    have HCC := Lib.hid hcc
    have hL2' : Later w (w2.alloc (.cells #[.slice (some ⟨g, 0, none⟩) 32 32, .slice A2 N c2] 32)) := hb2.alloc _
    generalize t.ch ++ b = x at *
    clear hcc hlen hflat hrd2 hrch h32 k2 hb2
    go_wp2_with (first
      | (guard_target =~ wpList _ _ _ (_ :: _) _ _; refine wpList_slice0 rfl 24 (.tmp 15) rfl (.pointer (some ⟨g, 0, none⟩)) rfl (sliceHash _) ?_)
      | (guard_target =~ wpList _ _ _ (_ :: _) _ _; refine wpList_buildSl rfl 150 2 _ rfl #[(0, .slice (some ⟨g, 0, none⟩) 32 32), (1, .slice A2 N c2)] (by simp only [List.map_toArray, List.map_cons, List.map_nil]; rfl) (run_rows2 _ _ _ _ _ _ _) ?_)
      | (go_at_call 50; refine HCC.out.mono ?_; rintro e w3 ⟨v3, rfl, hown3, hL3⟩; obtain ⟨A3, c3, rfl, hc3, hcm3, hrd3⟩ := hown3.slice; have hfr := frame_any A3 x.length c3 x w3 rfl (by rw [HLEN.out]; omega) hrd3; rw [if_pos (by rw [HLEN.out]; omega), if_pos (by rw [HLEN.out]; omega)] at hfr; have HFR := Lib.hid hfr; clear hfr hown3 hrd3)
      | (go_at_call 49; refine HFR.out.mono ?_; rintro e w4 ⟨v4, rfl, hown4, hL4⟩)
      | fail)
    exact HΦ.out _ _ ⟨_, rfl, hown4.mono (Later.step hL2' hL3).size, Later.step (Later.step hL2' hL3) hL4⟩
end Go.Proofs.YtcajhdmppfiaeaaGreat
namespace Go.Proofs.YtcajhdmppfiaeaaGreat
open Go.RowKit Ms
theorem goes0 (l : List UInt8) : Wr.goes 0 l = ((Wr.splitR l).2.2 == 0 && !((Wr.splitR l).2.1 == 0)) := rfl
set_option maxRecDepth 100000 in
set_option maxHeartbeats 4000000 in
theorem mread_any (A : Option Addr) (n c : Nat) (l : List UInt8) (w : World) (hn : l.length = n) (hc : n ≤ c) (hcm : c ≤ 9223372036854775807) (hnm : n ≤ 140737488355328) (hX : Rd w A l) :
    Calls Tryz.prog 20 #[.slice A n c] w fun e w' => e = .returned (.tuple #[.agg (toldC (readT l)), .int .i64 (readN l), .int .i64 (readE l)]) ∧ Below w.heap.size w w' := by
  have k1 := Row.new w 48 (toldC noTold)
  have hb := below_new w (.cells (toldC noTold) 48)
  refine Calls.post fun Φ HΦ => ?_
  have hsp := split_any A n c l (w.alloc (.cells (toldC noTold) 48)) hn hc hcm (hX.later hb)
  obtain ⟨R, hR⟩ : ∃ R, Wr.splitR l = R := ⟨_, rfl⟩
  have hbl := (Wr.split_bounds l).2.2
  have hT : readT l = if (R.2.2 == 0 && !(R.2.1 == 0)) = true then toldOf R.1 else noTold := by unfold readT; rw [goes0, hR]
  have hN : readN l = if (R.2.2 == 0 && !(R.2.1 == 0) && okT R.1) = true then R.2.1 else 0 := by unfold readN okFr; rw [goes0, hR]
  have hE : readE l = if (R.2.2 == 0 && !(R.2.1 == 0)) = true then toldE R.1 else R.2.2 := by unfold readE; rw [goes0, hR]
  rw [hR] at hsp hbl
  rw [hT, hN, hE] at HΦ
  clear hT hN hE hR
  obtain ⟨bd, sz, er⟩ := R
  simp only at hsp hbl HΦ
  have hbm : bd.length ≤ 140737488355328 := by omega
  clear hbl hc hcm hnm hX hn
  go_enter Tryz.func20, Tryz.ntmps20
  go_upto_region 1 with (first
    | (with_reducible refine wpList_alloc rfl 48 rfl (allocTold _) ?_)
    | fail)
  obtain ⟨q, hq⟩ : ∃ q, q = w.heap.size := ⟨_, rfl⟩
  rw [← hq] at k1 ⊢
  have HQ := Lib.hid hq
  clear hq
  generalize w.alloc (.cells (toldC noTold) 48) = w1 at *
  go_upto_region 2 with (first
    | (go_at_call 55; refine hsp.mono ?_; clear hsp; rintro e w2 ⟨v2, rfl, hown, hL2⟩; obtain ⟨A2, c2, rfl, hc2, hcm2, hrd2⟩ := hown.slice)
    | fail)
  have k2 := k1.belowAll hL2
  have hb2 := Later.step hb hL2
  clear hown k1 hb hL2
  by_cases hgo : er = 0 ∧ sz ≠ 0
  · obtain ⟨rfl, hs0⟩ := hgo
    have hz : (sz == 0) = false := by simpa using hs0
    have hcond : ((0 : Int) == 0 && !(sz == 0)) = true := by rw [hz]; rfl
    rw [hcond] at HΦ
    simp only [if_true, Bool.true_and] at HΦ
    have htl := told_any A2 bd.length c2 bd w2 rfl hc2 hcm2 hbm hrd2
    obtain ⟨ok, hok⟩ : ∃ b, okT bd = b := ⟨_, rfl⟩
    have hTE : toldE bd = if ok = true then 0 else 210 := by unfold toldE; rw [hok]
    rw [hTE] at htl HΦ
    rw [hok] at HΦ
    have hTw := toldOf_wf bd
    generalize toldOf bd = T at *
    have HTL := Lib.hid htl
    clear htl hok hTE hcond
    go_upto_region 5 with (first
      | (go_at_call 53; refine HTL.out.mono ?_; rintro e w3 ⟨rfl, hL3⟩; obtain ⟨w4, hst, k4, hg⟩ := storeTold noTold_wf hTw (k2.belowAll hL3))
      | (guard_target =~ wpList _ _ _ (_ :: _) _ _; refine wpList_store rfl 48 (.tmp 2) (.tmp 23) rfl (.pointer (some ⟨q, 0, none⟩)) (.agg (toldC T)) rfl rfl hst ?_)
      | fail)
    have hb3 := Later.step hb2 hL3
    have hb4 := hb3.grown hg hb3.size (fun j e => by injection e with e; have := HQ.out; omega)
    obtain ⟨w5, hst5, k5, hg5⟩ := storeTold hTw hTw k4
    have hb5 := hb4.grown hg5 hb4.size (fun j e => by injection e with e; have := HQ.out; omega)
    have hld := loadTold hTw k4
    clear hst hg hL3 k2 hb2 HTL hb3 hg5 k4 hb4
    cases ok
    · go_wp2_with (first
        | (guard_target =~ wpList _ _ _ (_ :: _) _ _; refine wpList_load rfl 48 (.tmp 2) rfl (.pointer (some ⟨q, 0, none⟩)) rfl hld ?_)
        | (guard_target =~ wpList _ _ _ (_ :: _) _ _; refine wpList_store rfl 48 (.tmp 2) (.tmp 27) rfl (.pointer (some ⟨q, 0, none⟩)) (.agg (toldC T)) rfl rfl hst5 ?_)
        | fail)
      exact bodyPost_ret (results_cell_tmp2 rfl _ _ q 48 (toldC T) (0, 0) _ (.int .i64 0) (.int .i64 210) rfl rfl rfl k5 Tryz.underlying48 rfl (by rw [toldC_size hTw]; exact infoTold)) rfl (HΦ.out _ _ ⟨rfl, hb5⟩)
    · go_wp2_with (first
        | (guard_target =~ wpList _ _ _ (_ :: _) _ _; refine wpList_load rfl 48 (.tmp 2) rfl (.pointer (some ⟨q, 0, none⟩)) rfl hld ?_)
        | (guard_target =~ wpList _ _ _ (_ :: _) _ _; refine wpList_store rfl 48 (.tmp 2) (.tmp 27) rfl (.pointer (some ⟨q, 0, none⟩)) (.agg (toldC T)) rfl rfl hst5 ?_)
        | fail)
      exact bodyPost_ret (results_cell_tmp2 rfl _ _ q 48 (toldC T) (0, 0) _ (.int .i64 sz) (.int .i64 0) rfl rfl rfl k5 Tryz.underlying48 rfl (by rw [toldC_size hTw]; exact infoTold)) rfl (HΦ.out _ _ ⟨rfl, hb5⟩)
  · have hcond : (er == 0 && !(sz == 0)) = false := by
      by_cases h : er = 0
      · have : sz = 0 := Classical.byContradiction fun h2 => hgo ⟨h, h2⟩
        subst this
        simp
      · rw [show (er == 0) = false by simpa using h]; rfl
    rw [hcond] at HΦ
    simp only [Bool.false_and, Bool.false_eq_true, if_false] at HΦ
    have hld := loadTold noTold_wf k2
    obtain ⟨w5, hst5, k5, hg5⟩ := storeTold noTold_wf noTold_wf k2
    have hb5 := hb2.grown hg5 hb2.size (fun j e => by injection e with e; have := HQ.out; omega)
    clear hg5 k2 hcond hb2
    by_cases h : er = 0
    · have hs0 : sz = 0 := Classical.byContradiction fun h2 => hgo ⟨h, h2⟩
      subst h hs0
      go_wp2_with (first
        | (guard_target =~ wpList _ _ _ (_ :: _) _ _; refine wpList_load rfl 48 (.tmp 2) rfl (.pointer (some ⟨q, 0, none⟩)) rfl hld ?_)
        | (guard_target =~ wpList _ _ _ (_ :: _) _ _; refine wpList_store rfl 48 (.tmp 2) (.tmp 18) rfl (.pointer (some ⟨q, 0, none⟩)) (.agg (toldC noTold)) rfl rfl hst5 ?_)
        | fail)
      exact bodyPost_ret (results_cell_tmp2 rfl _ _ q 48 (toldC noTold) (0, 0) _ (.int .i64 0) (.int .i64 0) rfl rfl rfl k5 Tryz.underlying48 rfl (by rw [toldC_size noTold_wf]; exact infoTold)) rfl (HΦ.out _ _ ⟨rfl, hb5⟩)
    · have hez : (er == 0) = false := by simpa using h
      clear hgo h
      go_wp2_with (first
        | (guard_target =~ wpList _ _ _ (_ :: _) _ _; refine wpList_load rfl 48 (.tmp 2) rfl (.pointer (some ⟨q, 0, none⟩)) rfl hld ?_)
        | (guard_target =~ wpList _ _ _ (_ :: _) _ _; refine wpList_store rfl 48 (.tmp 2) (.tmp 18) rfl (.pointer (some ⟨q, 0, none⟩)) (.agg (toldC noTold)) rfl rfl hst5 ?_)
        | fail)
      exact bodyPost_ret (results_cell_tmp2 rfl _ _ q 48 (toldC noTold) (0, 0) _ (.int .i64 0) (.int .i64 er) rfl rfl rfl k5 Tryz.underlying48 rfl (by rw [toldC_size noTold_wf]; exact infoTold)) rfl (HΦ.out _ _ ⟨rfl, hb5⟩)
end Go.Proofs.YtcajhdmppfiaeaaGreat
namespace Go.Proofs.YtcajhdmppfiaeaaGreat
open Go.RowKit Ms
def WA (w : World) (g : Nat) (t : Tell) (rs : List Value) (W : World) : Prop :=
  Below g w W ∧ Row W g 48 (toldC t) ∧ g + 1 ≤ W.heap.size ∧ match rs with
  | [] => True
  | [a] => Own 5 W (g + 1) a t.ch
  | [a, b] => Own 5 W (g + 1) a t.ch ∧ ∃ A c, b = .slice A (body t.s).length c ∧ Rd W A (body t.s)
  | [_, _, c] => Own 5 W (g + 1) c (t.ch ++ body t.s)
  | [_, _, _, d] => Own 5 W (g + 1) d (rawOf t)
  | _ => False
theorem WA.later {w W W' : World} {g : Nat} {t : Tell} {rs : List Value} (hg : g ≤ W.heap.size) (h : WA w g t rs W) (hL : Later W W') : WA w g t rs W' := by
  obtain ⟨h1, h2, h3, h4⟩ := h
  refine ⟨h1.trans (hL.below.mono hg), h2.later hL, Nat.le_trans h3 hL.size, ?_⟩
  rcases rs with _ | ⟨a, _ | ⟨b, _ | ⟨c, _ | ⟨d, _ | ⟨e, rs⟩⟩⟩⟩⟩
  · trivial
  · exact Own.later h4 hL
  · obtain ⟨h5, A, c, e, h6⟩ := h4
    exact ⟨h5.later hL, A, c, e, h6.later hL⟩
  · exact Own.later h4 hL
  · exact Own.later h4 hL
  · exact h4.elim
theorem len1 {rs : List Value} (h : rs.length = 1) : ∃ a, rs = [a] := by
  rcases rs with _ | ⟨a, _ | ⟨b, r⟩⟩
  · cases h
  · exact ⟨a, rfl⟩
  · simp at h
theorem len2 {rs : List Value} (h : rs.length = 2) : ∃ a b, rs = [a, b] := by
  rcases rs with _ | ⟨a, _ | ⟨b, _ | ⟨c, r⟩⟩⟩
  · cases h
  · simp at h
  · exact ⟨a, b, rfl⟩
  · simp at h
theorem len3 {rs : List Value} (h : rs.length = 3) : ∃ a b c, rs = [a, b, c] := by
  rcases rs with _ | ⟨a, _ | ⟨b, _ | ⟨c, _ | ⟨d, r⟩⟩⟩⟩
  · cases h
  · simp at h
  · simp at h
  · exact ⟨a, b, c, rfl⟩
  · simp at h
set_option maxRecDepth 100000 in
set_option maxHeartbeats 2000000 in
theorem refRaw_any (t : Tell) (ht : t.wf) (hr : Ms.right t.s = true) (w : World) :
    Calls Tryz.prog 19 #[.agg (toldC t)] w fun e w' => ∃ v, e = .returned v ∧ Own 5 w' w.heap.size v (rawOf t) ∧ Later w w' := by
  have k1 := Row.new w 48 (toldC t)
  have hb := below_new w (.cells (toldC t) 48)
  have hbx := boxTold ht w
  have hbl := body_len ht.2 hr
  have h512 := right_route hr
  refine Calls.post fun Φ HΦ => ?_
  go_enter Tryz.func19, Tryz.ntmps19
  go_upto_region 1 with fail
  obtain ⟨g, hg⟩ : ∃ q, q = w.heap.size := ⟨_, rfl⟩
  have hsz : (w.alloc (.cells (toldC t) 48)).heap.size = g + 1 := by rw [World.size_alloc, hg]
  rw [← hg] at k1 hb HΦ ⊢
  have HG := Lib.hid hg
  clear hbx hg
  generalize w.alloc (.cells (toldC t) 48) = w1 at *
  have hA0 : WA w g t [] w1 := ⟨hb, k1, Nat.le_of_eq hsz.symm, trivial⟩
  clear hb k1 hsz
  refine (wpIn_wide (n := 0)).1 ?_
  refine wpIn_region_cv wide_wide [.pointer (some ⟨g, 0, none⟩), .agg (hC t.ch), undef, .pointer (some ⟨g, 32, none⟩), .agg (saidC t.s), undef, undef, undef] [2, 5, 6, 7] (WA w g t) (fun rs W W' hL h => h.later (by have := h.2.2.1; omega) hL) hA0 (by kernel_rfl) (by kernel_rfl) (by kernel_rfl) (by kernel_rfl) (by kernel_rfl) (by kernel_rfl) rfl (by decide) rfl ⟨?_, ?_, ?_, ?_, ?_, ?_, ?_, ?_, trivial⟩ ?_
  · exact cvStep_val rfl (fun ac W rs he hA => stepOk_want rfl (op_fieldAddr rfl (he.keep (.tmp 1) (by kernel_rfl)) fieldTold0 rfl))
  · exact cvStep_val rfl (fun ac W rs he hA => stepOk_want rfl (op_load rfl (show ac.eval (.tmp 3) = .pointer (some ⟨g, 0, none⟩) from he.val 0 3 (by kernel_rfl) rfl rfl) (loadToldH ht hA.2.1) rfl))
  · refine cvStep_put (k := 0) rfl (.inl rfl) (fun ac W rs hlen he hA => ⟨rfl, ?_⟩)
    obtain rfl := List.eq_nil_of_length_eq_zero hlen
    obtain ⟨h1, h2, h3, _⟩ := hA
    have e1 : ac.eval (.tmp 4) = .agg (hC t.ch) := he.val 1 4 (by kernel_rfl) rfl rfl
    exact op_callFK (vs := #[.slice none 0 0, .agg (hC t.ch)]) rfl (by simp only [List.map_toArray, List.map_cons, List.map_nil, e1]; rfl) (enters_of Tryz.func37 (by kernel_rfl) rfl) ((refHashA_any (.slice none 0 0) [] t.ch (g + 1) W (Own.nil _ _ _) h3 ht.1 (by simp)).mono fun e W' ⟨v, he', ho, hb⟩ => ⟨v, he', v, rfl, h1.trans (hb.mono (Nat.le_succ g)), h2.below hb (Nat.lt_succ_self g), Nat.le_trans h3 hb.size, ho⟩)
  · exact cvStep_val rfl (fun ac W rs he hA => stepOk_want rfl (op_fieldAddr rfl (he.keep (.tmp 1) (by kernel_rfl)) fieldTold1 rfl))
  · exact cvStep_val rfl (fun ac W rs he hA => stepOk_want rfl (op_load rfl (show ac.eval (.tmp 6) = .pointer (some ⟨g, 32, none⟩) from he.val 3 6 (by kernel_rfl) rfl rfl) (loadToldS ht hA.2.1) rfl))
  · refine cvStep_put (k := 1) rfl (.inr (by kernel_rfl)) (fun ac W rs hlen he hA => ⟨rfl, ?_⟩)
    obtain ⟨a, rfl⟩ := len1 hlen
    obtain ⟨h1, h2, h3, h4⟩ := hA
    have e1 : ac.eval (.tmp 7) = .agg (saidC t.s) := he.val 4 7 (by kernel_rfl) rfl rfl
    exact op_callFK (vs := #[.agg (saidC t.s)]) rfl (by simp only [List.map_toArray, List.map_cons, List.map_nil, e1]) (enters_of Tryz.func14 (by kernel_rfl) rfl) ((refBody_any t.s ht.2 hr h512 W).mono fun e W' ⟨v, he', ho, hb⟩ => by
      obtain ⟨A, c, rfl, _, _, hrd⟩ := ho.slice
      exact ⟨_, he', _, rfl, h1.trans (hb.mono (by omega)), h2.later hb, Nat.le_trans h3 hb.size, Own.later h4 hb, A, c, rfl, hrd⟩)
  · refine cvStep_put (k := 2) rfl (.inr (by kernel_rfl)) (fun ac W rs hlen he hA => ⟨rfl, ?_⟩)
    obtain ⟨a, b, rfl⟩ := len2 hlen
    obtain ⟨h1, h2, h3, h4, A, c, rfl, hrd⟩ := hA
    have e0 : ac.eval (.tmp 5) = a := he.res 0 5 (by decide) (by kernel_rfl) rfl
    have e1 : ac.eval (.tmp 8) = .slice A (body t.s).length c := he.res 1 8 (by decide) (by kernel_rfl) rfl
    exact op_append_bytes (.tmp 5) (.tmp 8) 32 rfl (g + 1) 5 Tryz.underlying32 byteInfo _ _ e0 h4 A _ c _ e1 rfl hrd (by have := ht.1; omega) h3 (fun v' w' ho hg _ => by
      have hb : Below (g + 1) W w' := (Below.refl (g + 1) _).grown hg h3 (fun q e => (h4.at_ q e).1)
      exact ⟨v', rfl, h1.trans (hb.mono (Nat.le_succ g)), h2.below hb (Nat.lt_succ_self g), Nat.le_trans h3 hb.size, ho⟩)
  · refine cvStep_put (k := 3) rfl (.inr (by kernel_rfl)) (fun ac W rs hlen he hA => ⟨rfl, ?_⟩)
    obtain ⟨a, b, c, rfl⟩ := len3 hlen
    obtain ⟨h1, h2, h3, h4⟩ := hA
    obtain ⟨A, ca, rfl, _, _, hrd⟩ := Own.slice h4
    have e0 : ac.eval (.tmp 9) = .slice A (t.ch ++ body t.s).length ca := he.res 2 9 (by decide) (by kernel_rfl) rfl
    exact op_callFK (vs := #[.slice A (t.ch ++ body t.s).length ca]) rfl (by simp only [List.map_toArray, List.map_cons, List.map_nil, e0]) (enters_of Tryz.func54 (by kernel_rfl) rfl) ((refFrame_any A _ ca (t.ch ++ body t.s) W rfl (by rw [List.length_append, ht.1]; omega) hrd).mono fun e W' ⟨v, he', ho, hb⟩ => ⟨v, he', v, rfl, h1.trans (hb.below.mono (by omega)), h2.later hb, Nat.le_trans h3 hb.size, ho.mono h3⟩)
  intro xs W hA hx hk hgt
  obtain ⟨h1, h2, h3, h4⟩ : WA w g t [xs 2, xs 5, xs 6, xs 7] W := hA
  refine last_assign rfl (hgt 7 10 (by decide) (by kernel_rfl)) ?_
  clear hx hk hgt hA0
  generalize xs 7 = y7 at *
  generalize xs 6 = y6 at *
  generalize xs 5 = y5 at *
  generalize xs 2 = y2 at *
  simp only [initL, lastL, putL, Nat.reduceAdd, Act.put, List.setIfInBounds_toArray, List.set_cons_succ, List.set_cons_zero]
  go_wp2_with fail
  exact HΦ.out _ _ ⟨_, rfl, Own.mono h4 (Nat.le_succ g), by rw [HG.out] at h1; exact h1⟩
end Go.Proofs.YtcajhdmppfiaeaaGreat
namespace Go.Proofs.YtcajhdmppfiaeaaGreat
open Go.RowKit
def RefOpenPost2 (w : World) (A : Option Addr) (l : List UInt8) (e : Ending) (w' : World) : Prop := ∃ A' c, e = .returned (.tuple #[.slice A' (openB l).length c, .int .i64 (openE l)]) ∧ ((openB l).length ≤ c ∧ c ≤ 9223372036854775807) ∧ (∀ W, Rd W A l → Rd W A' (openB l)) ∧ Below w.heap.size w w'
set_option maxHeartbeats 400000 in
theorem refOpen2_short (A : Option Addr) (n ca : Nat) (l : List UInt8) (w : World) (hn : l.length = n) (hbn : n < 4) :
    Calls Tryz.prog 110 #[.slice A n ca] w (RefOpenPost2 w A l) := by
  have hok : openOk l = false := by unfold openOk; rw [decide_eq_false (by omega)]; rfl
  have hB : openB l = [] := by rw [openB, hok]; rfl
  have hE : openE l = 130 := by rw [openE, hok]; rfl
  have HB := Lib.hid hB
  have HE := Lib.hid hE
  clear hn hok hB hE
  have hlt : decide ((n : Int) < 4) = true := by simp; omega
  go_enter Tryz.func110, Tryz.ntmps110
  go_wp2
  go_quiet (fail)
  go_wp2
  go_ret2
  exact ⟨none, 0, by rw [HE.out, HB.out]; rfl, ⟨by rw [HB.out]; exact Nat.le_refl _, by decide⟩, fun W _ => by rw [HB.out]; exact Rd.nil _ _, (Drawn.refl w).drewN _ |>.below _⟩
set_option maxHeartbeats 400000 in
set_option maxRecDepth 100000 in
theorem refOpen2_long (A : Option Addr) (n ca : Nat) (l : List UInt8) (w : World) (hn : l.length = n) (hbn : 4 ≤ n) (hbt : n ≤ 1099511627776) (hca : n ≤ ca) (hcm : ca ≤ 9223372036854775807) (hr : Rd w A l) :
    Calls Tryz.prog 110 #[.slice A n ca] w (RefOpenPost2 w A l) := by
  obtain ⟨m, rfl⟩ : ∃ m, n = m + 4 := ⟨n - 4, by omega⟩
  have hlt : decide ((m : Int) + 4 < 4) = false := by simp; omega
  have hw1 : IntKind.i64.wrap ((m : Int) + 4 - 4) = (m : Int) := by rw [IntWalk.i64_in _ (by omega)]; omega
  have hw2 : IntKind.i64.wrap (m : Int) = (m : Int) := IntWalk.i64_in _ (by omega)
  have hmc : m ≤ ca := by omega
  have hlt4 : (l.take m).length = m := by rw [List.length_take]; omega
  have HT := Lib.hid hlt4
  have hok := openOk_iff l m hn
  have hB : openB l = if openOk l then l.take m else [] := by rw [openB, hn, Nat.add_sub_cancel]
  have hE : openE l = if openOk l then 0 else 130 := rfl
  rw [hok] at hB hE
  have HB := Lib.hid hB
  have HE := Lib.hid hE
  have HN := Lib.hid hn
  have hr1 := hr.take m
  obtain ⟨a, ha⟩ : ∃ a, l.take m = a := ⟨_, rfl⟩
  rw [ha] at hr1 HB HE HT
  have HA := Lib.hid ha
  clear hn hlt4 hok hB hE ha
  go_enter Tryz.func110, Tryz.ntmps110
  go_wp2
  go_region_held (fun w' => Sem.run Tryz.prog (convert 32 9 (.slice A (m + 4) ca)) w' = .ok (.string ⟨l.toArray⟩) w')
    (first | exact run_string_rd _ _ _ _ A (m + 4) ca l Tryz.underlying32 Tryz.underlying5 Tryz.underlying9 HN.out hr.drew | exact hcv2)
    (first
    | (go_at_call 106; refine (refSeal_any A m ca a _ HT.out (by omega) hr1.drew).mono ?_; rintro e w1 ⟨v1, rfl, hown1, hb1⟩; obtain ⟨q, hq⟩ : ∃ q, a ++ low4 (Crc.sum a) = q := ⟨_, rfl⟩; rw [hq] at hown1; have HQ := Lib.hid hq; clear hq; obtain ⟨A1, c1, rfl, _, _, hrd1⟩ := hown1.slice; have hcv1 := run_string_rd (P := Tryz.prog) w1 32 9 5 A1 _ c1 _ Tryz.underlying32 Tryz.underlying5 Tryz.underlying9 rfl hrd1; have hr2 := Rd.of_below hb1 (show Rd _ A l from hr); have hr3 := Rd.of_below hb1 (show Rd _ A a from hr1); have hcv2 := run_string_rd (P := Tryz.prog) w1 32 9 5 A (m + 4) ca l Tryz.underlying32 Tryz.underlying5 Tryz.underlying9 HN.out hr2))
  have hb1' : Below w.heap.size w w1 := (Below.refl w.heap.size w).drew.trans hb1
  rw [HQ.out] at HB HE
  clear hcv1 hcv2
  by_cases hql : q = l
  · rw [beqL_true hql]
    have hB := HB.out
    rw [eqB_true hql, if_pos rfl] at hB
    have hE := HE.out
    rw [eqB_true hql, if_pos rfl] at hE
    have HB2 := Lib.hid hB
    have HE2 := Lib.hid hE
    clear hB hE HB HE hql
    go_wp2
    go_ret2
    exact ⟨A, ca, by rw [HE2.out, HB2.out, HT.out]; rfl, ⟨by rw [HB2.out, HT.out]; omega, hcm⟩, fun W hW => by rw [HB2.out, ← HA.out]; exact hW.take m, hb1'⟩
  · rw [beqL_false hql]
    have hB := HB.out
    rw [eqB_false hql, if_neg (by simp)] at hB
    have hE := HE.out
    rw [eqB_false hql, if_neg (by simp)] at hE
    have HB2 := Lib.hid hB
    have HE2 := Lib.hid hE
    clear hB hE HB HE hql
    go_wp2
    go_ret2
    exact ⟨none, 0, by rw [HE2.out, HB2.out]; rfl, ⟨by rw [HB2.out]; exact Nat.le_refl _, by decide⟩, fun W _ => by rw [HB2.out]; exact Rd.nil _ _, hb1'⟩
theorem refOpen2_any (A : Option Addr) (n ca : Nat) (l : List UInt8) (w : World) (hn : l.length = n) (hbt : n ≤ 1099511627776) (hca : n ≤ ca) (hcm : ca ≤ 9223372036854775807) (hr : Rd w A l) :
    Calls Tryz.prog 110 #[.slice A n ca] w (RefOpenPost2 w A l) := by
  by_cases h : 4 ≤ n
  · exact refOpen2_long A n ca l w hn h hbt hca hcm hr
  · exact refOpen2_short A n ca l w hn (by omega)
set_option maxRecDepth 100000 in
set_option maxHeartbeats 1000000 in
theorem refSplit2_any (A : Option Addr) (n c : Nat) (l : List UInt8) (w : World) (hn : l.length = n) (hc : n ≤ c) (hcm : c ≤ 9223372036854775807) (hnm : n ≤ 1099511627776) (hr : Rd w A l) :
    Calls Tryz.prog 56 #[.slice A n c] w fun e w' => ∃ A' c', e = .returned (.tuple #[.slice A' (Wr.splitR l).1.length c', .int .i64 (Wr.splitR l).2.1, .int .i64 (Wr.splitR l).2.2]) ∧ ((Wr.splitR l).1.length ≤ c' ∧ c' ≤ 9223372036854775807) ∧ (∀ W, Rd W A l → Rd W A' (Wr.splitR l).1) ∧ Later w w' := by
  have hfi := refFirst_any A n c l w hn (by omega) hr
  obtain ⟨hf1, hf2, hf3⟩ := Wr.first_le l
  obtain ⟨R, hR⟩ : ∃ R, Wr.splitR l = R := ⟨_, rfl⟩
  have hp : Wr.piece l = (l.drop (Wr.first l).2.toNat).take (Wr.first l).1 := rfl
  rw [hR]
  unfold Wr.splitR at hR
  generalize Wr.piece l = p at *
  generalize Wr.first l = F at *
  obtain ⟨f, s⟩ := F
  simp only at hR hp hf1 hf2 hf3
  by_cases h0 : s = 0
  · rw [if_pos h0] at hR
    subst h0
    subst hR
    go_enter Tryz.func56, Tryz.ntmps56
    go_wp2_with (first
      | (go_at_call 109; refine hfi.mono ?_; clear hfi; rintro e w2 ⟨rfl, hb⟩)
      | fail)
    exact bodyPost_ret (results3 rfl _ _ rfl rfl rfl) rfl ⟨none, 0, rfl, ⟨Nat.le_refl _, by decide⟩, fun _ _ => Rd.nil _ _, hb⟩
  · rw [if_neg h0] at hR
    have hd0 : (s == 0) = false := by simpa using h0
    by_cases h1 : s < 0 ∨ f < 4 ∨ 8196 < f
    · rw [if_pos h1] at hR
      subst hR
      by_cases a1 : s < 0
      · have d1 : decide (s < 0) = true := decide_eq_true a1
        go_enter Tryz.func56, Tryz.ntmps56
        go_wp2_with (first
          | (go_at_call 109; refine hfi.mono ?_; clear hfi; rintro e w2 ⟨rfl, hb⟩)
          | fail)
        exact bodyPost_ret (results3 rfl _ _ rfl rfl rfl) rfl ⟨none, 0, rfl, ⟨Nat.le_refl _, by decide⟩, fun _ _ => Rd.nil _ _, hb⟩
      · have d1 : decide (s < 0) = false := decide_eq_false a1
        by_cases a2 : f < 4
        · have d2 : decide ((f : Int) < 4) = true := decide_eq_true (by omega)
          have d2' : decide (f < 4) = true := decide_eq_true (by omega)
          go_enter Tryz.func56, Tryz.ntmps56
          go_wp2_with (first
            | (go_at_call 109; refine hfi.mono ?_; clear hfi; rintro e w2 ⟨rfl, hb⟩)
            | fail)
          exact bodyPost_ret (results3 rfl _ _ rfl rfl rfl) rfl ⟨none, 0, rfl, ⟨Nat.le_refl _, by decide⟩, fun _ _ => Rd.nil _ _, hb⟩
        · have d2 : decide ((f : Int) < 4) = false := decide_eq_false (by omega)
          have d2' : decide (f < 4) = false := decide_eq_false (by omega)
          have d3 : decide ((8196 : Int) < (f : Int)) = true := decide_eq_true (by omega)
          have d3' : decide (8196 < f) = true := decide_eq_true (by omega)
          go_enter Tryz.func56, Tryz.ntmps56
          go_wp2_with (first
            | (go_at_call 109; refine hfi.mono ?_; clear hfi; rintro e w2 ⟨rfl, hb⟩)
            | fail)
          exact bodyPost_ret (results3 rfl _ _ rfl rfl rfl) rfl ⟨none, 0, rfl, ⟨Nat.le_refl _, by decide⟩, fun _ _ => Rd.nil _ _, hb⟩
    · rw [if_neg h1] at hR
      have a1 : ¬ s < 0 := fun h => h1 (.inl h)
      have a2 : ¬ f < 4 := fun h => h1 (.inr (.inl h))
      have a3 : ¬ 8196 < f := fun h => h1 (.inr (.inr h))
      obtain ⟨k, rfl⟩ : ∃ k : Nat, s = k := ⟨s.toNat, by omega⟩
      have d1 : decide ((k : Int) < 0) = false := decide_eq_false a1
      have d2 : decide ((f : Int) < 4) = false := decide_eq_false (by omega)
      have d2' : decide (f < 4) = false := decide_eq_false (by omega)
      have d3 : decide ((8196 : Int) < (f : Int)) = false := decide_eq_false (by omega)
      have d3' : decide (8196 < f) = false := decide_eq_false (by omega)
      rw [hn] at hR hf1
      clear h1 h0
      have hkn : k ≤ n := by omega
      have hsub : ((n : Int) - (k : Int)) = ((n - k : Nat) : Int) := by omega
      by_cases h2 : (n : Int) - (k : Int) < (f : Int)
      · rw [if_pos h2] at hR
        subst hR
        have d4 : decide ((n : Int) - (k : Int) < (f : Int)) = true := decide_eq_true h2
        go_enter Tryz.func56, Tryz.ntmps56
        go_wp2_with (first
          | (go_at_call 109; refine hfi.mono ?_; clear hfi; rintro e w2 ⟨rfl, hb⟩)
          | fail)
        exact bodyPost_ret (results3 rfl _ _ rfl rfl rfl) rfl ⟨none, 0, rfl, ⟨Nat.le_refl _, by decide⟩, fun _ _ => Rd.nil _ _, hb⟩
      · rw [if_neg h2] at hR
        have d4 : decide ((n : Int) - (k : Int) < (f : Int)) = false := decide_eq_false h2
        have hkf : k + f ≤ n := by omega
        obtain ⟨D, hs1, hD, _⟩ := run_slice_piece (P := Tryz.prog) (t := 32) (U := 5) (A := A) (n := n) (ca := c) (k := k) (m := k + f) Tryz.underlying32 byteInfo (by omega) (by omega)
        have hpl : p.length = f := by rw [hp]; simp; omega
        have hDp : ∀ W, Rd W A l → Rd W D p := fun W h => by
          have := hD W l (by omega) h
          rw [show k + f - k = f by omega] at this
          rw [hp, Int.toNat_natCast]
          exact this
        rw [show k + f - k = f by omega] at hs1
        simp only [Int.natCast_add] at hs1
        have hop := fun W (h : Rd W A l) => refOpen2_any D f (c - k) p W hpl (by omega) (by omega) (by omega) (hDp W h)
        unfold RefOpenPost2 openE openB at hop
        unfold openB at hR
        cases hok : openOk p with
        | true =>
          simp only [hok, if_true] at hop hR
          obtain ⟨B, hB⟩ : ∃ B, List.take (p.length - 4) p = B := ⟨_, rfl⟩
          rw [hB] at hop hR
          clear hB
          subst hR
          go_enter Tryz.func56, Tryz.ntmps56
          go_wp2_with (first
            | (go_at_call 109; refine hfi.mono ?_; clear hfi; rintro e w2 ⟨rfl, hb⟩; have hr2 := hr.later hb)
            | (go_at_call 110; refine (hop _ hr2).mono ?_; clear hop; rintro e w3 ⟨A', c', rfl, hcc, hA', hb3⟩)
            | fail)
          exact bodyPost_ret (results3 rfl _ _ rfl rfl rfl) rfl ⟨A', c', rfl, hcc, fun W h => hA' W (hDp W h), hb.step hb3⟩
        | false =>
          simp only [hok, Bool.false_eq_true, if_false] at hop hR
          subst hR
          go_enter Tryz.func56, Tryz.ntmps56
          go_wp2_with (first
            | (go_at_call 109; refine hfi.mono ?_; clear hfi; rintro e w2 ⟨rfl, hb⟩; have hr2 := hr.later hb)
            | (go_at_call 110; refine (hop _ hr2).mono ?_; clear hop; rintro e w3 ⟨A', c', rfl, hcc, hA', hb3⟩)
            | fail)
          exact bodyPost_ret (results3 rfl _ _ rfl rfl rfl) rfl ⟨none, 0, rfl, ⟨Nat.le_refl _, by decide⟩, fun _ _ => Rd.nil _ _, hb.step hb3⟩
section
open Ms
set_option maxRecDepth 100000 in
set_option maxHeartbeats 8000000 in
theorem refRead_long (A : Option Addr) (n c : Nat) (l : List UInt8) (w : World) (hn : l.length = n) (hc : n ≤ c) (hcm : c ≤ 9223372036854775807) (hnm : n ≤ 1099511627776) (hX : Rd w A l) (hgo : (Wr.splitR l).2.2 = 0 ∧ (Wr.splitR l).2.1 ≠ 0) (h32 :  32 ≤ (Wr.splitR l).1.length) :
    Calls Tryz.prog 21 #[.slice A n c] w fun e w' => e = .returned (.tuple #[.agg (toldC (readT l)), .int .i64 (readN l), .int .i64 (readE l)]) ∧ Below w.heap.size w w' := by
  have k1 := Row.new w 48 (toldC noTold)
  have hb := below_new w (.cells (toldC noTold) 48)
  refine Calls.post fun Φ HΦ => ?_
  have hsp := refSplit2_any A n c l (w.alloc (.cells (toldC noTold) 48)) hn hc hcm hnm (hX.later hb)
  have hX1 := hX.later hb
  obtain ⟨R, hR⟩ : ∃ R, Wr.splitR l = R := ⟨_, rfl⟩
  have hbl := (Wr.split_bounds l).2.2
  have hT : readT l = if (R.2.2 == 0 && !(R.2.1 == 0)) = true then toldOf R.1 else noTold := by unfold readT; rw [goes0, hR]
  have hN : readN l = if (R.2.2 == 0 && !(R.2.1 == 0) && okT R.1) = true then R.2.1 else 0 := by unfold readN okFr; rw [goes0, hR]
  have hE : readE l = if (R.2.2 == 0 && !(R.2.1 == 0)) = true then toldE R.1 else R.2.2 := by unfold readE; rw [goes0, hR]
  rw [hR] at hsp hbl hgo h32
  rw [hT, hN, hE] at HΦ
  clear hT hN hE hR
  obtain ⟨bd, sz, er⟩ := R
  simp only at hsp hbl HΦ hgo h32
  have hbm : bd.length ≤ 1099511627776 := by omega
  clear hbl hc hcm hnm hX hn
  go_enter Tryz.func21, Tryz.ntmps21
  go_upto_region 1 with (first
    | (with_reducible refine wpList_alloc rfl 48 rfl (allocTold _) ?_)
    | fail)
  obtain ⟨q, hq⟩ : ∃ q, q = w.heap.size := ⟨_, rfl⟩
  rw [← hq] at k1 ⊢
  have HQ := Lib.hid hq
  clear hq
  generalize w.alloc (.cells (toldC noTold) 48) = w1 at *
  go_upto_region 2 with (first
    | (go_at_call 56; refine hsp.mono ?_; clear hsp; rintro e w2 ⟨A2, c2, rfl, ⟨hc2, hcm2⟩, hrd2, hL2⟩)
    | fail)
  have k2 := k1.later hL2
  have hb2 := Later.step hb hL2
  have hR2 := hrd2 w2 (hX1.later hL2)
  clear k1 hb hL2 hX1 hrd2
  obtain ⟨rfl, hs0⟩ := hgo
  have hz : (sz == 0) = false := by simpa using hs0
  have hcond : ((0 : Int) == 0 && !(sz == 0)) = true := by rw [hz]; rfl
  rw [hcond] at HΦ
  simp only [if_true, Bool.true_and] at HΦ
  obtain ⟨N, hNN⟩ : ∃ N, bd.length = N := ⟨_, rfl⟩
  rw [hNN] at hc2 hbm ⊢
  have hhR := refHashR_any A2 N c2 bd false w2 hNN hc2 hcm2 hR2
  clear hcond
  have hRv : Wr.hashR bd false = ((bd.drop 32, false), bd.take 32, 0) := by unfold Wr.hashR; rw [if_neg (by simp), if_pos h32]
  rw [hRv] at hhR
  have ht32 : (bd.take 32).length = 32 := by rw [List.length_take]; omega
  obtain ⟨ok, hok⟩ : ∃ b, okB (bd.drop 32) = b := ⟨_, rfl⟩
  have hoT : okT bd = ok := by unfold okT; rw [hok, decide_eq_true h32]; rfl
  have hTO : toldOf bd = if ok = true then ⟨bd.take 32, Ms.parse (bd.drop 32)⟩ else noTold := by unfold toldOf; rw [hoT]
  have hTE : toldE bd = if ok = true then 0 else 210 := by unfold toldE; rw [hoT]
  have hPE : Ms.parseE (bd.drop 32) = if ok = true then 0 else 210 := by unfold Ms.parseE; rw [hok]
  rw [hTO, hTE, hoT] at HΦ
  have hdl : (bd.drop 32).length ≤ 1099511627776 := by rw [List.length_drop]; omega
  obtain ⟨x, hx⟩ : ∃ x, bd.take 32 = x := ⟨_, rfl⟩
  obtain ⟨y, hy⟩ : ∃ y, bd.drop 32 = y := ⟨_, rfl⟩
  rw [hx] at hhR HΦ ht32
  rw [hy] at hhR HΦ hdl hPE
  obtain ⟨P, hP⟩ : ∃ P, Ms.parse y = P := ⟨_, rfl⟩
  have hPw : P.wf := hP ▸ parse_wf _
  have hpa := fun (D : Option Addr) (c : Nat) (W : World) (h1 : y.length ≤ c) (h2 : c ≤ 9223372036854775807) (h : Rd W D y) => refParse_any D y.length c y W rfl h1 h2 (by omega) h
  rw [hP] at HΦ
  simp only [hP, hPE] at hpa
  have HPA := Lib.hid hpa
  have HHR := Lib.hid hhR
  have HRV := Lib.hid hR2
  have HX32 := Lib.hid (Nat.le_of_eq ht32)
  have hTw : (⟨x, P⟩ : Tell).wf := ⟨ht32, hPw⟩
  have HTW := Lib.hid hTw
  have HXE := Lib.hid ht32
  have HPW := Lib.hid hPw
  clear hpa hhR hok hoT hTO hTE hPE hP hdl hx hy ht32 hRv hTw hR2 h32 hPw
  go_upto_region 5 with (first
    | (guard_target =~ wpList _ _ _ (_ :: _) _ _; refine wpList_build rfl 102 _ rfl #[(0, .slice A2 N c2)] (by simp only [List.map_toArray, List.map_cons, List.map_nil]; rfl) (buildRf1 _ _ _ _) ?_)
    | (go_at_call 57; refine HHR.out.mono ?_; rintro e w3 ⟨hL3, v, rfl, D, c3, rfl, hcc, hcm3, hD⟩; obtain ⟨w4, hst, k84, hg4⟩ := storeRf (A' := D) (n' := y.length) (c' := c3) (bad' := false) ((Row.new w3 102 (rfV none 0 0 false)).alloc (.cells (hC []) 24)); obtain ⟨w5, hst5, k95, hg5⟩ := storeHz (x := x) (by decide) HX32.out ((Row.new (w3.alloc (.cells (rfV none 0 0 false) 102)) 24 (hC [])).grown hg4 (fun e => by injection e with e; simp at e)))
    | (with_reducible refine wpList_alloc rfl 102 rfl (allocRf _) ?_)
    | (with_reducible refine wpList_alloc rfl 24 rfl (allocHz _) ?_)
    | (guard_target =~ wpList _ _ _ (_ :: _) _ _; refine wpList_store rfl 102 (.tmp 8) (.tmp 29) rfl (.pointer (some ⟨w3.heap.size, 0, none⟩)) (.agg (rfV D y.length c3 false)) rfl rfl hst ?_)
    | (guard_target =~ wpList _ _ _ (_ :: _) _ _; refine wpList_store rfl 24 (.tmp 9) (.tmp 30) rfl (.pointer (some ⟨(w3.alloc (.cells (rfV none 0 0 false) 102)).heap.size, 0, none⟩)) (.agg (hC x)) rfl rfl hst5 ?_)
    | fail)
  simp only [World.size_alloc] at k95 hg5 ⊢
  have hL35 : Later w3 w5 := ((((Later.refl w3).alloc (.cells (rfV none 0 0 false) 102)).alloc (.cells (hC []) 24)).grown hg4 (by simp; omega) (fun j e => by cases e; omega)).grown hg5 (by have := hg4.size; simp at this; omega) (fun j e => by cases e; omega)
  have k85 := k84.grown hg5 (fun e => by injection e with e; omega)
  have hL25 : Later w2 w5 := hL3.step hL35
  have k25 := k2.later hL25
  have hb5 := Later.step hb2 hL25
  have hpa := HPA.out D c3 w5 hcc hcm3 (hD w5 (HRV.out.later hL25))
  have HP2 := Lib.hid hpa
  generalize w3.heap.size = q8 at *
  generalize q8 + 1 = q9 at *
  have ca : w5.cell? ⟨q8, 0, none⟩ = some (.slice D y.length c3) := k85.cell 0
  clear hst hst5 hg4 hg5 k84 hL35 hL25 hL3 k2 hb2 hpa HPA HHR HRV hD k85
  go_upto_region 8 with (first
    | (go_at_call 16; refine HP2.out.mono ?_; rintro e w6 ⟨rfl, hb6⟩; obtain ⟨w7, hst, x7, hL7⟩ := newSaid w6 HPW.out)
    | (with_reducible refine wpList_alloc rfl 29 rfl (allocSaid _) ?_)
    | (guard_target =~ wpList _ _ _ (_ :: _) _ _; refine wpList_store rfl 29 (.tmp 10) (.tmp 39) rfl (.pointer (some ⟨w6.heap.size, 0, none⟩)) (.agg (saidC P)) rfl rfl hst ?_)
    | fail)
  have hL57 : Later w5 w7 := Later.step hb6 hL7
  have k27 := k25.later hL57
  have hb7 := Later.step hb5 hL57
  have k97 := k95.later hL57
  generalize w6.heap.size = q10 at *
  clear hst ca hL57 k25 hb5 k95 HP2 hb6 hL7
  cases ok
  · obtain ⟨w8, hst, k8, hg⟩ := storeTold noTold_wf noTold_wf k27
    have hb8 := hb7.grown hg hb7.size (fun j e => by injection e with e; have := HQ.out; omega)
    clear hg k27 hb7
    go_wp2_with (first
      | (guard_target =~ wpList _ _ _ (_ :: _) _ _; refine wpList_build rfl 48 #[] rfl #[] (by simp only [List.map_toArray, List.map_nil]) (buildToldZ _) ?_)
      | (guard_target =~ wpList _ _ _ (_ :: _) _ _; refine wpList_store rfl 48 (.tmp 2) (.tmp 43) rfl (.pointer (some ⟨q, 0, none⟩)) (.agg (toldC noTold)) rfl rfl hst ?_)
      | fail)
    exact bodyPost_ret (results_cell_tmp2 rfl _ _ q 48 (toldC noTold) (0, 0) _ (.int .i64 0) (.int .i64 210) rfl rfl rfl k8 Tryz.underlying48 rfl (by rw [toldC_size noTold_wf]; exact infoTold)) rfl (HΦ.out _ _ ⟨rfl, hb8⟩)
  · have hldh := loadHy HX32.out k97
    have hlds := loadSaid HPW.out x7
    obtain ⟨w8, hst, k8, hg⟩ := storeTold noTold_wf HTW.out k27
    have hb8 := hb7.grown hg hb7.size (fun j e => by injection e with e; have := HQ.out; omega)
    clear hg k27 hb7
    go_wp2_with (first
      | (guard_target =~ wpList _ _ _ (_ :: _) _ _; refine wpList_load rfl 24 (.tmp 9) rfl (.pointer (some ⟨q9, 0, none⟩)) rfl hldh ?_)
      | (guard_target =~ wpList _ _ _ (_ :: _) _ _; refine wpList_load rfl 29 (.tmp 10) rfl (.pointer (some ⟨q10, 0, none⟩)) rfl hlds ?_)
      | (guard_target =~ wpList _ _ _ (_ :: _) _ _; refine wpList_build rfl 48 _ rfl #[(0, .agg (hC x)), (1, .agg (saidC P))] (by simp only [List.map_toArray, List.map_cons, List.map_nil]; rfl) (buildTold HXE.out HPW.out _) ?_)
      | (guard_target =~ wpList _ _ _ (_ :: _) _ _; refine wpList_store rfl 48 (.tmp 2) (.tmp 47) rfl (.pointer (some ⟨q, 0, none⟩)) (.agg (toldC ⟨x, P⟩)) rfl rfl hst ?_)
      | fail)
    exact bodyPost_ret (results_cell_tmp2 rfl _ _ q 48 (toldC ⟨x, P⟩) (0, 0) _ (.int .i64 sz) (.int .i64 0) rfl rfl rfl k8 Tryz.underlying48 rfl (by rw [toldC_size HTW.out]; exact infoTold)) rfl (HΦ.out _ _ ⟨rfl, hb8⟩)
set_option maxRecDepth 100000 in
set_option maxHeartbeats 8000000 in
theorem refRead_short (A : Option Addr) (n c : Nat) (l : List UInt8) (w : World) (hn : l.length = n) (hc : n ≤ c) (hcm : c ≤ 9223372036854775807) (hnm : n ≤ 1099511627776) (hX : Rd w A l) (hgo : (Wr.splitR l).2.2 = 0 ∧ (Wr.splitR l).2.1 ≠ 0) (h32 : ¬ 32 ≤ (Wr.splitR l).1.length) :
    Calls Tryz.prog 21 #[.slice A n c] w fun e w' => e = .returned (.tuple #[.agg (toldC (readT l)), .int .i64 (readN l), .int .i64 (readE l)]) ∧ Below w.heap.size w w' := by
  have k1 := Row.new w 48 (toldC noTold)
  have hb := below_new w (.cells (toldC noTold) 48)
  refine Calls.post fun Φ HΦ => ?_
  have hsp := refSplit2_any A n c l (w.alloc (.cells (toldC noTold) 48)) hn hc hcm hnm (hX.later hb)
  have hX1 := hX.later hb
  obtain ⟨R, hR⟩ : ∃ R, Wr.splitR l = R := ⟨_, rfl⟩
  have hbl := (Wr.split_bounds l).2.2
  have hT : readT l = if (R.2.2 == 0 && !(R.2.1 == 0)) = true then toldOf R.1 else noTold := by unfold readT; rw [goes0, hR]
  have hN : readN l = if (R.2.2 == 0 && !(R.2.1 == 0) && okT R.1) = true then R.2.1 else 0 := by unfold readN okFr; rw [goes0, hR]
  have hE : readE l = if (R.2.2 == 0 && !(R.2.1 == 0)) = true then toldE R.1 else R.2.2 := by unfold readE; rw [goes0, hR]
  rw [hR] at hsp hbl hgo h32
  rw [hT, hN, hE] at HΦ
  clear hT hN hE hR
  obtain ⟨bd, sz, er⟩ := R
  simp only at hsp hbl HΦ hgo h32
  have hbm : bd.length ≤ 1099511627776 := by omega
  clear hbl hc hcm hnm hX hn
  go_enter Tryz.func21, Tryz.ntmps21
  go_upto_region 1 with (first
    | (with_reducible refine wpList_alloc rfl 48 rfl (allocTold _) ?_)
    | fail)
  obtain ⟨q, hq⟩ : ∃ q, q = w.heap.size := ⟨_, rfl⟩
  rw [← hq] at k1 ⊢
  have HQ := Lib.hid hq
  clear hq
  generalize w.alloc (.cells (toldC noTold) 48) = w1 at *
  go_upto_region 2 with (first
    | (go_at_call 56; refine hsp.mono ?_; clear hsp; rintro e w2 ⟨A2, c2, rfl, ⟨hc2, hcm2⟩, hrd2, hL2⟩)
    | fail)
  have k2 := k1.later hL2
  have hb2 := Later.step hb hL2
  have hR2 := hrd2 w2 (hX1.later hL2)
  clear k1 hb hL2 hX1 hrd2
  obtain ⟨rfl, hs0⟩ := hgo
  have hz : (sz == 0) = false := by simpa using hs0
  have hcond : ((0 : Int) == 0 && !(sz == 0)) = true := by rw [hz]; rfl
  rw [hcond] at HΦ
  simp only [if_true, Bool.true_and] at HΦ
  obtain ⟨N, hNN⟩ : ∃ N, bd.length = N := ⟨_, rfl⟩
  rw [hNN] at hc2 hbm ⊢
  have hhR := refHashR_any A2 N c2 bd false w2 hNN hc2 hcm2 hR2
  clear hcond
  have hRv : Wr.hashR bd false = ((bd, true), [], 140) := by unfold Wr.hashR; rw [if_neg (by simp), if_neg h32]
  rw [hRv] at hhR
  have hoT : okT bd = false := by unfold okT; rw [decide_eq_false h32]; rfl
  have hTO : toldOf bd = noTold := by unfold toldOf; rw [hoT]; rfl
  have hTE : toldE bd = 210 := by unfold toldE; rw [hoT]; rfl
  rw [hTO, hTE, hoT] at HΦ
  simp only [hNN] at hhR
  have HHR := Lib.hid hhR
  clear hhR hoT hTO hTE hRv hR2 h32 hNN
  go_upto_region 5 with (first
    | (guard_target =~ wpList _ _ _ (_ :: _) _ _; refine wpList_build rfl 102 _ rfl #[(0, .slice A2 N c2)] (by simp only [List.map_toArray, List.map_cons, List.map_nil]; rfl) (buildRf1 _ _ _ _) ?_)
    | (go_at_call 57; refine HHR.out.mono ?_; rintro e w3 ⟨hL3, v, rfl, D, c3, rfl, hcc, hcm3, hD⟩; obtain ⟨w4, hst, k84, hg4⟩ := storeRf (A' := D) (n' := bd.length) (c' := c3) (bad' := true) ((Row.new w3 102 (rfV none 0 0 false)).alloc (.cells (hC []) 24)); obtain ⟨w5, hst5, k95, hg5⟩ := storeHz (x := []) (by decide) (by decide) ((Row.new (w3.alloc (.cells (rfV none 0 0 false) 102)) 24 (hC [])).grown hg4 (fun e => by injection e with e; simp at e)))
    | (with_reducible refine wpList_alloc rfl 102 rfl (allocRf _) ?_)
    | (with_reducible refine wpList_alloc rfl 24 rfl (allocHz _) ?_)
    | (guard_target =~ wpList _ _ _ (_ :: _) _ _; refine wpList_store rfl 102 (.tmp 8) (.tmp 29) rfl (.pointer (some ⟨w3.heap.size, 0, none⟩)) (.agg (rfV D bd.length c3 true)) rfl rfl hst ?_)
    | (guard_target =~ wpList _ _ _ (_ :: _) _ _; refine wpList_store rfl 24 (.tmp 9) (.tmp 30) rfl (.pointer (some ⟨(w3.alloc (.cells (rfV none 0 0 false) 102)).heap.size, 0, none⟩)) (.agg (hC [])) rfl rfl hst5 ?_)
    | fail)
  simp only [World.size_alloc] at k95 hg5 ⊢
  have hL35 : Later w3 w5 := ((((Later.refl w3).alloc (.cells (rfV none 0 0 false) 102)).alloc (.cells (hC []) 24)).grown hg4 (by simp; omega) (fun j e => by cases e; omega)).grown hg5 (by have := hg4.size; simp at this; omega) (fun j e => by cases e; omega)
  have hL25 : Later w2 w5 := hL3.step hL35
  have k25 := k2.later hL25
  have hb5 := Later.step hb2 hL25
  obtain ⟨w8, hst, k8, hg⟩ := storeTold noTold_wf noTold_wf k25
  have hb8 := hb5.grown hg hb5.size (fun j e => by injection e with e; have := HQ.out; omega)
  clear hg k25 hb5 hL35 hL25 hL3 k2 hb2 HHR hst5 k84 k95 hg4 hg5
  go_wp2_with (first
    | (guard_target =~ wpList _ _ _ (_ :: _) _ _; refine wpList_build rfl 48 #[] rfl #[] (by simp only [List.map_toArray, List.map_nil]) (buildToldZ _) ?_)
    | (guard_target =~ wpList _ _ _ (_ :: _) _ _; refine wpList_store rfl 48 (.tmp 2) (.tmp 34) rfl (.pointer (some ⟨q, 0, none⟩)) (.agg (toldC noTold)) rfl rfl hst ?_)
    | fail)
  exact bodyPost_ret (results_cell_tmp2 rfl _ _ q 48 (toldC noTold) (0, 0) _ (.int .i64 0) (.int .i64 210) rfl rfl rfl k8 Tryz.underlying48 rfl (by rw [toldC_size noTold_wf]; exact infoTold)) rfl (HΦ.out _ _ ⟨rfl, hb8⟩)
set_option maxRecDepth 100000 in
set_option maxHeartbeats 8000000 in
theorem refRead_none (A : Option Addr) (n c : Nat) (l : List UInt8) (w : World) (hn : l.length = n) (hc : n ≤ c) (hcm : c ≤ 9223372036854775807) (hnm : n ≤ 1099511627776) (hX : Rd w A l) (hgo : ¬ ((Wr.splitR l).2.2 = 0 ∧ (Wr.splitR l).2.1 ≠ 0)) :
    Calls Tryz.prog 21 #[.slice A n c] w fun e w' => e = .returned (.tuple #[.agg (toldC (readT l)), .int .i64 (readN l), .int .i64 (readE l)]) ∧ Below w.heap.size w w' := by
  have k1 := Row.new w 48 (toldC noTold)
  have hb := below_new w (.cells (toldC noTold) 48)
  refine Calls.post fun Φ HΦ => ?_
  have hsp := refSplit2_any A n c l (w.alloc (.cells (toldC noTold) 48)) hn hc hcm hnm (hX.later hb)
  have hX1 := hX.later hb
  obtain ⟨R, hR⟩ : ∃ R, Wr.splitR l = R := ⟨_, rfl⟩
  have hbl := (Wr.split_bounds l).2.2
  have hT : readT l = if (R.2.2 == 0 && !(R.2.1 == 0)) = true then toldOf R.1 else noTold := by unfold readT; rw [goes0, hR]
  have hN : readN l = if (R.2.2 == 0 && !(R.2.1 == 0) && okT R.1) = true then R.2.1 else 0 := by unfold readN okFr; rw [goes0, hR]
  have hE : readE l = if (R.2.2 == 0 && !(R.2.1 == 0)) = true then toldE R.1 else R.2.2 := by unfold readE; rw [goes0, hR]
  rw [hR] at hsp hbl hgo
  rw [hT, hN, hE] at HΦ
  clear hT hN hE hR
  obtain ⟨bd, sz, er⟩ := R
  simp only at hsp hbl HΦ hgo
  have hbm : bd.length ≤ 1099511627776 := by omega
  clear hbl hc hcm hnm hX hn
  go_enter Tryz.func21, Tryz.ntmps21
  go_upto_region 1 with (first
    | (with_reducible refine wpList_alloc rfl 48 rfl (allocTold _) ?_)
    | fail)
  obtain ⟨q, hq⟩ : ∃ q, q = w.heap.size := ⟨_, rfl⟩
  rw [← hq] at k1 ⊢
  have HQ := Lib.hid hq
  clear hq
  generalize w.alloc (.cells (toldC noTold) 48) = w1 at *
  go_upto_region 2 with (first
    | (go_at_call 56; refine hsp.mono ?_; clear hsp; rintro e w2 ⟨A2, c2, rfl, ⟨hc2, hcm2⟩, hrd2, hL2⟩)
    | fail)
  have k2 := k1.later hL2
  have hb2 := Later.step hb hL2
  have hR2 := hrd2 w2 (hX1.later hL2)
  clear k1 hb hL2 hX1 hrd2
  have hcond : (er == 0 && !(sz == 0)) = false := by
    by_cases h : er = 0
    · have : sz = 0 := Classical.byContradiction fun h2 => hgo ⟨h, h2⟩
      subst this
      simp
    · rw [show (er == 0) = false by simpa using h]; rfl
  rw [hcond] at HΦ
  simp only [Bool.false_and, Bool.false_eq_true, if_false] at HΦ
  obtain ⟨w8, hst, k8, hg⟩ := storeTold noTold_wf noTold_wf k2
  have hb8 := hb2.grown hg hb2.size (fun j e => by injection e with e; have := HQ.out; omega)
  clear hg k2 hcond hb2 hR2
  by_cases h : er = 0
  · have hs0 : sz = 0 := Classical.byContradiction fun h2 => hgo ⟨h, h2⟩
    subst h hs0
    go_wp2_with (first
      | (guard_target =~ wpList _ _ _ (_ :: _) _ _; refine wpList_build rfl 48 #[] rfl #[] (by simp only [List.map_toArray, List.map_nil]) (buildToldZ _) ?_)
      | (guard_target =~ wpList _ _ _ (_ :: _) _ _; refine wpList_store rfl 48 (.tmp 2) (.tmp 23) rfl (.pointer (some ⟨q, 0, none⟩)) (.agg (toldC noTold)) rfl rfl hst ?_)
      | fail)
    exact bodyPost_ret (results_cell_tmp2 rfl _ _ q 48 (toldC noTold) (0, 0) _ (.int .i64 0) (.int .i64 0) rfl rfl rfl k8 Tryz.underlying48 rfl (by rw [toldC_size noTold_wf]; exact infoTold)) rfl (HΦ.out _ _ ⟨rfl, hb8⟩)
  · have hez : (er == 0) = false := by simpa using h
    clear hgo h
    go_wp2_with (first
      | (guard_target =~ wpList _ _ _ (_ :: _) _ _; refine wpList_build rfl 48 #[] rfl #[] (by simp only [List.map_toArray, List.map_nil]) (buildToldZ _) ?_)
      | (guard_target =~ wpList _ _ _ (_ :: _) _ _; refine wpList_store rfl 48 (.tmp 2) (.tmp 23) rfl (.pointer (some ⟨q, 0, none⟩)) (.agg (toldC noTold)) rfl rfl hst ?_)
      | fail)
    exact bodyPost_ret (results_cell_tmp2 rfl _ _ q 48 (toldC noTold) (0, 0) _ (.int .i64 0) (.int .i64 er) rfl rfl rfl k8 Tryz.underlying48 rfl (by rw [toldC_size noTold_wf]; exact infoTold)) rfl (HΦ.out _ _ ⟨rfl, hb8⟩)
theorem refRead_any (A : Option Addr) (n c : Nat) (l : List UInt8) (w : World) (hn : l.length = n) (hc : n ≤ c) (hcm : c ≤ 9223372036854775807) (hnm : n ≤ 1099511627776) (hX : Rd w A l) :
    Calls Tryz.prog 21 #[.slice A n c] w fun e w' => e = .returned (.tuple #[.agg (toldC (readT l)), .int .i64 (readN l), .int .i64 (readE l)]) ∧ Below w.heap.size w w' := by
  by_cases hgo : (Wr.splitR l).2.2 = 0 ∧ (Wr.splitR l).2.1 ≠ 0
  · by_cases h32 : 32 ≤ (Wr.splitR l).1.length
    · exact refRead_long A n c l w hn hc hcm hnm hX hgo h32
    · exact refRead_short A n c l w hn hc hcm hnm hX hgo h32
  · exact refRead_none A n c l w hn hc hcm hnm hX hgo
end
end Go.Proofs.YtcajhdmppfiaeaaGreat
