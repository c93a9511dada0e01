/- Joined texts: Gk6 Gk7 Gk8 Gq Gk9 Gk10 Gk11 Gk12 Gk13 Gk14 Gk15 Gk16 Gk17 Gk18 Gk19 Gk20 Gk21 Gk22 Gk23. -/
import Derived.Test.YtcajhdmppfiaeaaGreatMb3
import Derived.WalkKit
import Derived.WalkSpells
import Derived.Deep.MidRow
import Derived.Deep.WholeRow
import Derived.Deep.Draws
import Derived.Maps.AppendAt
import Derived.Lib.Hide
import Derived.OwnWalk
import Derived.Laws.IdiomStrings
import Derived.Lib.SlBytesConst
import Derived.Orders
import Derived.Shelf.Abstract
import Derived.OrdersIn
import Derived.RangeFuncCalls
import Derived.RangeFuncNested
import Derived.RangeFuncBound
import Derived.RangeFuncLeaves
import Derived.Shelf.RegionOpen
import Derived.OwnWalkIn
import Derived.TacticsInMore
import Derived.LoopNIn
import Derived.LoopIn
import Derived.WalkMore
import Derived.Test.YtcajhdmppfiaeaaGreatRows
import Derived.ProofKit
import Derived.OpenShut
import Derived.Deep.Slices
import Derived.Deep.Matrix
import Derived.WalkLawsBesides
import Derived.BigRegion
import Derived.BigQuiet
import Derived.Lib.AppendZeros
import Derived.Laws.BitsAllLaws
import Derived.IntWalk
import Derived.Laws.CopyOwn
import Derived.Outline
import Derived.Deep.RegionWith
import Derived.Deep.RegionHeld3
import Derived.Stop.BytesEq
import Derived.ShutString
import Derived.ChangeOld
import Derived.Lib.ConvBytes
import Derived.Recover
import Derived.Defers
import Derived.Deep.Cut
import Derived.Deep.DeepCutAuto
import Derived.Deep.QuietTactic
import Derived.Laws.EntriesVeiled
import Derived.StillTailTactics
import Derived.Maps.OwnOps
import Derived.Lib.QuoteBits
import Derived.Lib.AppendStr
import Derived.Deep.Grids
import Derived.Deep.Strs
import Derived.MapKept
import Derived.Laws.StructEq
import Derived.ChangeKeysEq
import Derived.Stop.Joined
set_option linter.unusedVariables false
set_option linter.unusedSimpArgs false
namespace Go.Proofs.YtcajhdmppfiaeaaGreat
open Go.RowKit Ms
def layOk (s : Said) : Fld → Prop
  | .num j _ => 0 ≤ s.n j ∧ s.n j ≤ 4611686018427387904
  | .hash _ => True
  | .route => s.route.length ≤ 1048576
set_option maxRecDepth 100000 in
theorem layN_any (gw : Nat) (r : Option Nat) (l0 : List UInt8) (g j bt : Nat) (s : Said) (w : World) (hs : s.wf) (h1 : 1 ≤ j) (h2 : j ≤ 11) (h0 : 0 ≤ s.n j) (hm : s.n j ≤ 4611686018427387904) (hl0 : l0.length ≤ 100000000) (hw : IsWr w gw r l0) (hr : Row w g 29 (saidC s)) (hb : Row w bt 128 #[.func (.func (nFn j)) #[] #[]]) :
    Calls Tryz.prog 113 #[.pointer (some ⟨gw, 0, none⟩), .pointer (some ⟨g, 0, none⟩), .pointer (some ⟨bt, 0, none⟩)] w fun e w' => e = .returned (.tuple #[]) ∧ ∃ r', IsWr w' gw r' (l0 ++ Wr.bytes (s.n j).toNat) ∧ Wrote w w' gw r r' := by
  have c1 : w.cell? ⟨bt, 0, none⟩ = some (.func (.func (nFn j)) #[] #[]) := (hb.cell 0).trans rfl
  have hld := loadSaidN hs hr j (by omega)
  have hc := nfn_any g j w h1 h2
  obtain ⟨c, hcn⟩ : ∃ c : Nat, s.n j = (c : Int) := ⟨(s.n j).toNat, by omega⟩
  rw [hcn] at hld h0 hm ⊢
  have hL : Later w (w.alloc (.cells #[numV (c : Int)] 2)) := (Later.refl w).alloc _
  have hnum := wNumber_any gw r l0 (some ⟨w.heap.size, 0, none⟩) 1 1 [(c : Int)] _ rfl (by decide) hl0 (RdV.row (Row.new w 2 #[numV (c : Int)])) (fun b o e _ => by injection e with e; injection e with e _; have := hw.lt; exact ⟨by omega, fun e' => by have := this.2 b e'.symm; omega⟩) (hw.later hL)
  have hnw : [(c : Int)].any Wr.wrong = false := by
    simp [Wr.wrong]
    omega
  have hnb : Wr.nums [(c : Int)] = Wr.bytes ((c : Int).toNat) := by simp [Wr.nums, Wr.nb_nat]
  rw [hnb] at hnum
  have HNUM := Lib.hid hnum
  have HNW := Lib.hid hnw
  have HL := Lib.hid hL
  clear hr hb hw hcn hnb hnw hnum hL
  go_enter Tryz.func113, Tryz.ntmps113
  go_wp2_with (first
    | (guard_target =~ wpList _ _ _ (_ :: _) _ _; refine wpList_callV rfl (.tmp 6) #[.tmp 7] _ rfl (f := nFn j) (bound := #[]) (vs := #[.pointer (some ⟨g, 0, none⟩)]) rfl (by simp only [List.map_toArray, List.map_cons, List.map_nil]; rfl) (nfn_enters j) rfl ?_; refine hc.mono ?_; clear hc; rintro e w1 ⟨rfl, hw1⟩; refine .inl ⟨_, rfl, ?_⟩; subst hw1)
    | (guard_target =~ wpList _ _ _ (_ :: _) _ _; refine wpList_load rfl 2 (.tmp 9) rfl (.pointer (some ⟨g, offN j, none⟩)) rfl hld ?_)
    | (go_at_call 25; refine HNUM.out.mono ?_; rintro e w4 (⟨h, _⟩ | ⟨_, rfl, r', hw4, hwt⟩); · (rw [HNW.out] at h; cases h))
    | fail)
  go_end0
  exact ⟨rfl, r', hw4, Wrote.later0 HL.out hwt⟩
theorem hC_range (s : List UInt8) (hs : s.length ≤ 32) : hC s = ((List.range 32).map fun i => byteV ((s ++ Sha.zeros (32 - s.length)).getD i 0)).toArray := by
  unfold hC
  congr 1
  have hl : (s ++ Sha.zeros (32 - s.length)).length = 32 := by simp [Sha.zeros]; omega
  generalize s ++ Sha.zeros (32 - s.length) = l at *
  apply List.ext_getElem?
  intro i
  rw [List.getElem?_map, List.getElem?_map]
  by_cases hi : i < 32
  · rw [List.getElem?_range hi, List.getElem?_eq_getElem (by omega)]
    simp only [Option.map_some]
    rw [List.getD_eq_getElem?_getD, List.getElem?_eq_getElem (by omega)]
    rfl
  · rw [List.getElem?_eq_none (by omega), List.getElem?_eq_none (by simp; omega)]
    rfl
theorem buildHR (f : Nat → UInt8) (w : World) : (Instr.buildSlice 181 1 #[(0, .agg ((List.range 32).map fun i => byteV (f i)).toArray)]).run Tryz.prog w = .ok (.slice (some ⟨w.heap.size, 0, none⟩) 1 1) (w.alloc (.cells ((List.range 32).map fun i => byteV (f i)).toArray 24)) := by kernel_rfl
theorem buildHs (h : List UInt8) (hl : h.length ≤ 32) (w : World) : (Instr.buildSlice 181 1 #[(0, .agg (hC h))]).run Tryz.prog w = .ok (.slice (some ⟨w.heap.size, 0, none⟩) 1 1) (w.alloc (.cells (hC h) 24)) := by
  rw [hC_range h hl]
  exact buildHR _ w
theorem RdH.new (w : World) (h : List UInt8) : RdH (w.alloc (.cells (hC h) 24)) (some ⟨w.heap.size, 0, none⟩) [h] := fun _ => ⟨w.heap.size, 0, rfl, fun i hi => by
  obtain rfl : i = 0 := by simpa using hi
  exact (Row.new w 24 (hC h)).range 0 _ fun j v hj => by rw [Nat.zero_add, ← Array.getElem?_toList]; exact hj⟩
theorem wpList_bs {P : Program} {w w' : World} {ops : Array Oper} {rest : List Oper} {o : Oper} {a : Act} {Q : Exit → Act → World → Prop} (hgd : o.guard = none) (T n : Nat) (parts : Array (Nat × Operand)) (ho : o.op = .buildSlice T n parts) (vs : Array (Nat × Value)) (hp : (parts.map fun (i, x) => (i, a.eval x)) = vs) {v : Value} (hr : (Instr.buildSlice T n vs).run P w = .ok v w') (h : wpList P ops Q rest (a.put o.dst v) w') : wpList P ops Q (o :: rest) a w := by
  refine wpList_plain hgd fun K hK => ?_
  unfold Oper.wp execOp
  simp only [ho, hp, hr, Sem.run_bind, Sem.run_pure, Result.andThen_ok]
  exact hK _ _ h
set_option maxRecDepth 100000 in
theorem layH_any (gw : Nat) (r : Option Nat) (l0 : List UInt8) (g j bt : Nat) (s : Said) (w : World) (hs : s.wf) (hj : okH j = true) (hl0 : l0.length ≤ 100000000) (hw : IsWr w gw r l0) (hr : Row w g 29 (saidC s)) (hb : Row w bt 131 #[.func (.func (hFn j)) #[] #[]]) :
    Calls Tryz.prog 116 #[.pointer (some ⟨gw, 0, none⟩), .pointer (some ⟨g, 0, none⟩), .pointer (some ⟨bt, 0, none⟩)] w fun e w' => e = .returned (.tuple #[]) ∧ ∃ r', IsWr w' gw r' (l0 ++ s.h j) ∧ Wrote w w' gw r r' := by
  have c1 : w.cell? ⟨bt, 0, none⟩ = some (.func (.func (hFn j)) #[] #[]) := (hb.cell 0).trans rfl
  have hld := loadSaidH hs hr j (okH_lt hj)
  have hc := hfn_any g j w hj
  have h32 : (s.h j).length = 32 := hs j (okH_lt hj)
  generalize s.h j = h at *
  have hL : Later w (w.alloc (.cells (hC h) 24)) := (Later.refl w).alloc _
  have hnum := wHash_any gw r l0 (some ⟨w.heap.size, 0, none⟩) 1 1 [h] _ rfl (by decide) (by simp [h32]) hl0 (RdH.new w h) (fun b o e _ => by injection e with e; injection e with e _; have := hw.lt; exact ⟨by omega, fun e' => by have := this.2 b e'.symm; omega⟩) (hw.later hL)
  have hnb : [h].flatten = h := by simp
  rw [hnb] at hnum
  have hbs := buildHs h (Nat.le_of_eq h32) w
  have HNUM := Lib.hid hnum
  have HL := Lib.hid hL
  clear hr hb hw hnb hnum hL h32
  go_enter Tryz.func116, Tryz.ntmps116
  go_wp2_with (first
    | (guard_target =~ wpList _ _ _ (_ :: _) _ _; refine wpList_callV rfl (.tmp 6) #[.tmp 7] _ rfl (f := hFn j) (bound := #[]) (vs := #[.pointer (some ⟨g, 0, none⟩)]) rfl (by simp only [List.map_toArray, List.map_cons, List.map_nil]; rfl) (hfn_enters j) rfl ?_; refine hc.mono ?_; clear hc; rintro e w1 ⟨rfl, hw1⟩; refine .inl ⟨_, rfl, ?_⟩; subst hw1)
    | (guard_target =~ wpList _ _ _ (_ :: _) _ _; refine wpList_load rfl 24 (.tmp 9) rfl (.pointer (some ⟨g, offH j, none⟩)) rfl hld ?_)
    | (guard_target =~ wpList _ _ _ (_ :: _) _ _; refine wpList_bs rfl 181 1 _ rfl #[(0, .agg (hC h))] (by simp only [List.map_toArray, List.map_cons, List.map_nil]; rfl) hbs ?_)
    | (go_at_call 117; refine HNUM.out.mono ?_; rintro e w4 ⟨rfl, r', hw4, hwt⟩)
    | fail)
  go_end0
  exact ⟨rfl, r', hw4, Wrote.later0 HL.out hwt⟩
set_option maxRecDepth 100000 in
theorem layR_any (gw : Nat) (r : Option Nat) (l0 : List UInt8) (g : Nat) (s : Said) (w : World) (hs : s.wf) (hm : s.route.length ≤ 1048576) (hl0 : l0.length ≤ 100000000) (hw : IsWr w gw r l0) (hr : Row w g 29 (saidC s)) :
    Calls Tryz.prog 122 #[.pointer (some ⟨gw, 0, none⟩), .pointer (some ⟨g, 0, none⟩)] w fun e w' => e = .returned (.tuple #[]) ∧ ∃ r', IsWr w' gw r' (l0 ++ (Wr.bytes s.route.length ++ s.route)) ∧ Wrote w w' gw r r' := by
  have hld := loadSaidR hs hr
  have hnum := wText_any gw r l0 s.route w (by omega) hl0 hw
  generalize s.route = t at *
  have HNUM := Lib.hid hnum
  have HM := Lib.hid hm
  clear hr hw hnum hm
  go_enter Tryz.func122, Tryz.ntmps122
  go_wp2_with (first
    | (guard_target =~ wpList _ _ _ (_ :: _) _ _; refine wpList_load rfl 9 (.tmp 7) rfl (.pointer (some ⟨g, 301, none⟩)) rfl hld ?_)
    | (go_at_call 123; refine HNUM.out.mono ?_; rintro e w4 (⟨h, _⟩ | ⟨_, rfl, r', hw4, hwt⟩); · (have := HM.out; omega))
    | fail)
  go_end0
  exact ⟨rfl, r', hw4, hwt⟩
theorem lay_any (f : Fld) (cs : Array Value) (gw : Nat) (r : Option Nat) (l0 : List UInt8) (g : Nat) (s : Said) (w : World) (hs : s.wf) (hp : PartC w cs f) (ho : layOk s f) (hl0 : l0.length ≤ 100000000) (hw : IsWr w gw r l0) (hr : Row w g 29 (saidC s)) :
    ∃ F caps, cs[0]? = some (.func (.func F) #[] caps) ∧ (∀ args w, (callFunc F args).run Tryz.prog w = .ok (.enter F args) w) ∧ Calls Tryz.prog F (#[.pointer (some ⟨gw, 0, none⟩), .pointer (some ⟨g, 0, none⟩)] ++ caps) w fun e w' => e = .returned (.tuple #[]) ∧ ∃ r', IsWr w' gw r' (l0 ++ lay s f) ∧ Wrote w w' gw r r' := by
  cases f with
  | num j m =>
    obtain ⟨h1, h2, bm, bt, rfl, r1, r2⟩ := hp
    exact ⟨_, _, rfl, enters_of Tryz.func113 (by kernel_rfl) rfl, layN_any gw r l0 g j bt s w hs h1 h2 ho.1 ho.2 hl0 hw hr r2⟩
  | hash j =>
    obtain ⟨h1, bt, rfl, r1⟩ := hp
    exact ⟨_, _, rfl, enters_of Tryz.func116 (by kernel_rfl) rfl, layH_any gw r l0 g j bt s w hs h1 hl0 hw hr r1⟩
  | route =>
    obtain rfl : cs = partR := hp
    exact ⟨_, _, rfl, enters_of Tryz.func122 (by kernel_rfl) rfl, layR_any gw r l0 g s w hs ho hl0 hw hr⟩
end Go.Proofs.YtcajhdmppfiaeaaGreat
namespace Go.Proofs.YtcajhdmppfiaeaaGreat
open Go.RowKit Ms
theorem mmust_ok (w : World) : Calls Tryz.prog 43 #[.bool true] w fun e w' => w' = w ∧ e = .returned (.tuple #[]) := by
  go_enter Tryz.func43, Tryz.ntmps43
  go_wp2
  go_end0
  exact ⟨rfl, rfl⟩
def gaveUp (n : Int) : List PanicEntry := [{ v := .iface 33 (.int .i64 n), recovered := false }]
theorem mmust_no (w : World) : Calls Tryz.prog 43 #[.bool false] w fun e w' => w' = w ∧ e = .panicked (gaveUp 210) := by
  go_enter Tryz.func43, Tryz.ntmps43
  go_wp2
  exact ⟨rfl, rfl, rfl⟩
theorem Moved.trans {w' : World} {gr : Nat} {A0 D : Option Addr} {l0 l l1 : List UInt8} {b1 : Bool} (hR : ∀ X, Rd X A0 l0 → Rd X D l) (h : Moved w' gr D l l1 b1) : Moved w' gr A0 l0 l1 b1 := by
  obtain ⟨D', c', r', h1, h2, h3⟩ := h
  exact ⟨D', c', r', h1, h2, fun X hX => h3 X (hR X hX)⟩
theorem Wr.numR_two (l : List UInt8) (m : Int) (hm : 0 ≤ m) : (∃ l1 n, Wr.numR l false m = ((l1, false), n, 0)) ∨ (∃ l1, Wr.numR l false m = ((l1, true), 0, 140)) := by
  unfold Wr.numR
  rw [if_neg (by simp), if_neg (by omega)]
  split
  · exact .inl ⟨_, _, rfl⟩
  · exact .inr ⟨_, rfl⟩
def Took (gr : Nat) (A0 : Option Addr) (l0 : List UInt8) (g : Nat) (s : Said) (w : World) (R : RdS) (e : Ending) (w' : World) : Prop :=
  Same (fun k => k < w.heap.size ∧ k ≠ gr ∧ k ≠ g) w w' ∧ ((R.bad = false ∧ e = .returned (.tuple #[]) ∧ Moved w' gr A0 l0 R.l false ∧ Row w' g 29 (saidC R.s)) ∨ (R.bad = true ∧ e = .panicked (gaveUp 210) ∧ Row w' g 29 (saidC s)))
set_option maxRecDepth 100000 in
theorem takeN_any (gr : Nat) (A0 : Option Addr) (l0 l : List UInt8) (g j bm bt : Nat) (m : Int) (s : Said) (w : World) (hs : s.wf) (h1 : 1 ≤ j) (h2 : j ≤ 11) (hm : 0 ≤ m) (hmv : Moved w gr A0 l0 l false) (hrd : Rd w A0 l0) (hr : Row w g 29 (saidC s)) (hbm : Row w bm 2 #[.int .i64 m]) (hbt : Row w bt 128 #[.func (.func (nFn j)) #[] #[]]) :
    Calls Tryz.prog 114 #[.agg #[.pointer (some ⟨gr, 0, none⟩)], .pointer (some ⟨g, 0, none⟩), .pointer (some ⟨bm, 0, none⟩), .pointer (some ⟨bt, 0, none⟩)] w (Took gr A0 l0 g s w (take1 ⟨l, false, s⟩ (.num j m))) := by
  obtain ⟨D, c, hrow, hc, hcm, hR⟩ := hmv
  have hgr : gr ≠ g := fun e => by subst e; exact absurd (Row.type hrow hr) (by decide)
  have htr : gr ≠ bt := fun e => by subst e; exact absurd (Row.type hrow hbt) (by decide)
  have hL : Later w (w.alloc (.cells #[.pointer (some ⟨gr, 0, none⟩)] 96)) := (Later.refl w).alloc _
  have k4 := Row.new w 96 #[.pointer (some ⟨gr, 0, none⟩)]
  have hnum := rNumber_mv gr l false m _ D c (hrow.later hL) hc hcm ((hR w hrd).later hL)
  have hr1 := hr.later hL
  have cm : (w.alloc (.cells #[.pointer (some ⟨gr, 0, none⟩)] 96)).cell? ⟨bm, 0, none⟩ = some (.int .i64 m) := ((hbm.later hL).cell 0).trans rfl
  have hbt1 := hbt.later hL
  have hglt := hr.lt
  have hblt := hbt1.lt
  have hrlt := hrow.lt
  clear hr hbm hbt hrow hrd
  unfold take1
  have hsz : w.heap.size ≤ (w.alloc (.cells #[.pointer (some ⟨gr, 0, none⟩)] 96)).heap.size := hL.size
  go_enter Tryz.func114, Tryz.ntmps114
  go_upto_region 1 with fail
  have c4 : (w.alloc (.cells #[.pointer (some ⟨gr, 0, none⟩)] 96)).cell? ⟨w.heap.size, 0, none⟩ = some (.pointer (some ⟨gr, 0, none⟩)) := (k4.cell 0).trans rfl
  generalize hW1 : w.alloc (.cells #[.pointer (some ⟨gr, 0, none⟩)] 96) = w1 at *
  clear hW1 k4
  rcases Wr.numR_two l m hm with ⟨l1, n, hn⟩ | ⟨l1, hn⟩
  · rw [hn] at hnum
    have HN := Lib.hid hn
    have HNUM := Lib.hid hnum
    clear hn hnum
    go_upto_region 3 with (first
      | (go_at_call 42; refine HNUM.out.mono ?_; rintro e w2 ⟨hs2, rfl, hm2⟩)
      | (go_at_call 43; refine (mmust_ok _).mono ?_; rintro e w5 ⟨rfl, rfl⟩)
      | fail)
    have hr2 := hr1.same hs2 ⟨hr1.lt, fun e => hgr e.symm⟩
    have hbt2 := hbt1.same hs2 ⟨hblt, fun e => htr e.symm⟩
    have c1 : w5.cell? ⟨bt, 0, none⟩ = some (.func (.func (nFn j)) #[] #[]) := (hbt2.cell 0).trans rfl
    obtain ⟨hst, hr3⟩ := storeSaidN hs hr2 j (by omega) n
    have hcc := nfn_any g j w5 h1 h2
    have HST := Lib.hid hst
    have HR3 := Lib.hid hr3
    have HS := Lib.hid hs2
    have HM := Lib.hid hm2
    clear hr2 hbt2 hr3 hs2 hm2 hst hr1 hbt1 c4 cm
    go_wp2_with (first
      | (guard_target =~ wpList _ _ _ (_ :: _) _ _; refine wpList_callV rfl (.tmp 18) #[.tmp 19] _ rfl (f := nFn j) (bound := #[]) (vs := #[.pointer (some ⟨g, 0, none⟩)]) rfl (by simp only [List.map_toArray, List.map_cons, List.map_nil]; rfl) (nfn_enters j) rfl ?_; refine hcc.mono ?_; clear hcc; rintro e w6 ⟨rfl, hw6⟩; refine .inl ⟨_, rfl, ?_⟩; subst hw6)
      | (guard_target =~ wpList _ _ _ (_ :: _) _ _; refine wpList_store rfl 2 (.tmp 22) (.tmp 21) rfl (.pointer (some ⟨g, offN j, none⟩)) (.int .i64 n) rfl rfl HST.out ?_)
      | fail)
    go_end0
    rw [HN.out]
    unfold Took
    refine ⟨((Same.of_below hL.below).mono fun k h => h.1).trans ((HS.out.mono fun k h => ⟨Nat.lt_of_lt_of_le h.1 hsz, h.2.1⟩).trans ((Same.set _ ⟨g, offN j, none⟩ _).mono fun k h => h.2.2)), .inl ⟨rfl, rfl, ?_, HR3.out⟩⟩
    exact (Moved.trans hR HM.out).far hgr _
  · rw [hn] at hnum
    have HN := Lib.hid hn
    have HNUM := Lib.hid hnum
    clear hn hnum
    go_wp2_with (first
      | (go_at_call 42; refine HNUM.out.mono ?_; rintro e w2 ⟨hs2, rfl, hm2⟩)
      | (go_at_call 43; refine (mmust_no _).mono ?_; rintro e w5 ⟨rfl, rfl⟩)
      | fail)
    rw [HN.out]
    refine ⟨rfl, ((Same.of_below hL.below).mono fun k h => h.1).trans (hs2.mono fun k h => ⟨Nat.lt_of_lt_of_le h.1 hsz, h.2.1⟩), .inr ⟨rfl, rfl, hr1.same hs2 ⟨hr1.lt, fun e => hgr e.symm⟩⟩⟩
end Go.Proofs.YtcajhdmppfiaeaaGreat
namespace Go.Proofs.YtcajhdmppfiaeaaGreat
open Go.RowKit Ms
theorem newH (w : World) (h : List UInt8) (hl : h.length ≤ 32) : ∃ w', (Instr.storeAt 24 (.pointer (some ⟨w.heap.size, 0, none⟩)) (.agg (hC h))).run Tryz.prog (w.alloc (.cells (hC []) 24)) = .ok () w' ∧ Row w' w.heap.size 24 (hC h) ∧ Later w w' := by
  obtain ⟨w', h1, h2, h3⟩ := storeH (a := []) (b := h) (by simp) hl (Row.new w 24 (hC []))
  exact ⟨w', h1, h2, Below.grown ((Later.refl w).alloc _) h3 (by simp only [World.size_alloc]; omega) (fun j e => by cases e; exact Nat.le_refl _)⟩
theorem Wr.hashR_two (l : List UInt8) : (∃ l1 v, Wr.hashR l false = ((l1, false), v, 0) ∧ v.length = 32) ∨ (∃ l1, Wr.hashR l false = ((l1, true), [], 140)) := by
  unfold Wr.hashR
  rw [if_neg (by simp)]
  split
  · rename_i h
    exact .inl ⟨_, _, rfl, by rw [List.length_take]; omega⟩
  · exact .inr ⟨_, rfl⟩
theorem Wr.textR_two (l : List UInt8) (m : Int) (hm : 0 ≤ m) : (∃ l1 v, Wr.textR l false m = ((l1, false), v, 0)) ∨ (∃ l1, Wr.textR l false m = ((l1, true), [], 140)) := by
  unfold Wr.textR
  rw [if_neg (by simp), if_neg (by omega)]
  split
  · exact .inl ⟨_, _, rfl⟩
  · exact .inr ⟨_, rfl⟩
theorem loadFH {b o : Nat} {v : Value} {W : World} (hc : W.cell? ⟨b, o, none⟩ = some v) : (Instr.loadAt 131 (.pointer (some ⟨b, o, none⟩))).run Tryz.prog W = .ok v W := by
  go_simp
set_option maxRecDepth 100000 in
theorem takeH_any (gr : Nat) (A0 : Option Addr) (l0 l : List UInt8) (g j bt : Nat) (s : Said) (w : World) (hs : s.wf) (hj : okH j = true) (hmv : Moved w gr A0 l0 l false) (hrd : Rd w A0 l0) (hr : Row w g 29 (saidC s)) (hbt : Row w bt 131 #[.func (.func (hFn j)) #[] #[]]) :
    Calls Tryz.prog 118 #[.agg #[.pointer (some ⟨gr, 0, none⟩)], .pointer (some ⟨g, 0, none⟩), .pointer (some ⟨bt, 0, none⟩)] w (Took gr A0 l0 g s w (take1 ⟨l, false, s⟩ (.hash j))) := by
  obtain ⟨D, c, hrow, hc, hcm, hR⟩ := hmv
  have hgr : gr ≠ g := fun e => by subst e; exact absurd (Row.type hrow hr) (by decide)
  have htr : gr ≠ bt := fun e => by subst e; exact absurd (Row.type hrow hbt) (by decide)
  have hL : Later w (w.alloc (.cells #[.pointer (some ⟨gr, 0, none⟩)] 96)) := (Later.refl w).alloc _
  have k4 := Row.new w 96 #[.pointer (some ⟨gr, 0, none⟩)]
  have hnum := hash_mv gr l false _ D c (hrow.later hL) hc hcm ((hR w hrd).later hL)
  have hr1 := hr.later hL
  have hbt1 := hbt.later hL
  have hglt := hr.lt
  have hblt := hbt1.lt
  have hrlt := hrow.lt
  clear hr hbt hrow hrd
  unfold take1
  have hsz : w.heap.size ≤ (w.alloc (.cells #[.pointer (some ⟨gr, 0, none⟩)] 96)).heap.size := hL.size
  go_enter Tryz.func118, Tryz.ntmps118
  go_upto_region 1 with fail
  have c4 : (w.alloc (.cells #[.pointer (some ⟨gr, 0, none⟩)] 96)).cell? ⟨w.heap.size, 0, none⟩ = some (.pointer (some ⟨gr, 0, none⟩)) := (k4.cell 0).trans rfl
  generalize hW1 : w.alloc (.cells #[.pointer (some ⟨gr, 0, none⟩)] 96) = w1 at *
  clear hW1 k4
  rcases Wr.hashR_two l with ⟨l1, v, hn, hv⟩ | ⟨l1, hn⟩
  · rw [hn] at hnum
    have HN := Lib.hid hn
    have HNUM := Lib.hid hnum
    clear hn hnum
    go_upto_region 3 with (first
      | (go_at_call 119; refine HNUM.out.mono ?_; rintro e w2 ⟨hs2, rfl, hm2⟩; obtain ⟨w3, hst, kh, hL3⟩ := newH w2 v (Nat.le_of_eq hv))
      | (with_reducible refine wpList_alloc rfl 24 rfl (allocH _) ?_)
      | (guard_target =~ wpList _ _ _ (_ :: _) _ _; refine wpList_store rfl 24 (.tmp 5) (.tmp 11) rfl (.pointer (some ⟨w2.heap.size, 0, none⟩)) (.agg (hC v)) rfl rfl hst ?_)
      | (go_at_call 43; refine (mmust_ok _).mono ?_; rintro e w5 ⟨rfl, rfl⟩)
      | fail)
    have hr2 := (hr1.same hs2 ⟨hr1.lt, fun e => hgr e.symm⟩).later hL3
    have hbt2 := (hbt1.same hs2 ⟨hblt, fun e => htr e.symm⟩).later hL3
    have hm3 : Moved w5 gr D l l1 false := hm2.same (Same.of_below hL3.below) (by obtain ⟨D', c', h', _⟩ := hm2; exact h'.lt)
    have hs3 : Same (fun k => k < w1.heap.size ∧ k ≠ gr) w1 w5 := hs2.trans ((Same.of_below hL3.below).mono fun k h => Nat.lt_of_lt_of_le h.1 hs2.size)
    obtain ⟨q, hq⟩ : ∃ q, q = w2.heap.size := ⟨_, rfl⟩
    rw [← hq] at kh ⊢
    clear hst hr1 hbt1 c4 hs2 hm2 hq hL3
    refine (wpIn_wide (n := 0)).1 ?_
    refine wpIn_region_last wide_wide [Pr.eq (.func (.func (hFn j)) #[] #[]), Pr.eq (.pointer (some ⟨g, 0, none⟩)), Pr.eq (.pointer (some ⟨g, offH j, none⟩)), Pr.eq (.agg (hC v)), Pr.eq (.pointer (some ⟨g, offH j, none⟩))] (by kernel_rfl) (by kernel_rfl) (by kernel_rfl) (by kernel_rfl) (by kernel_rfl) (by kernel_rfl) rfl ⟨?_, ?_, ?_, ?_, ?_, trivial⟩ ?_
    · exact fun ac W hL he => stepOk_want rfl (op_load rfl (he.keep (.tmp 2) (by kernel_rfl)) (loadFH (((hbt2.later hL).cell 0).trans rfl)) rfl)
    · exact fun ac W hL he => stepOk_want rfl (op_move rfl (he.keep (.tmp 1) (by kernel_rfl)))
    · intro ac W hL he; refine stepOk_want rfl ?_; have e16 : ac.eval (.tmp 16) = .func (.func (hFn j)) #[] #[] := he.get 0 16 (by kernel_rfl) rfl; have e17 : ac.eval (.tmp 17) = .pointer (some ⟨g, 0, none⟩) := he.get 1 17 (by kernel_rfl) rfl; exact op_callV (vs := #[.pointer (some ⟨g, 0, none⟩)]) (all := #[.pointer (some ⟨g, 0, none⟩)]) rfl e16 (by simp only [List.map_toArray, List.map_cons, List.map_nil, e17]) (hfn_enters j) rfl ((hfn_any g j W hj).mono fun e W' ⟨he', hw'⟩ => ⟨_, he', hw' ▸ Later.refl _, rfl⟩)
    · exact fun ac W hL he => stepOk_want rfl (op_load rfl (he.keep (.tmp 5) (by kernel_rfl)) (loadH hv (kh.later hL)) rfl)
    · exact fun ac W hL he => stepOk_want rfl (op_nil rfl (he.get 2 18 (by kernel_rfl) rfl) rfl)
    intro xs W hL4 hx hk hgt
    have e20 := hgt 4 20 (by decide) (by kernel_rfl)
    have e19 := hgt 3 19 (by decide) (by kernel_rfl)
    rw [show xs 4 = .pointer (some ⟨g, offH j, none⟩) from hx 4 (by decide)] at e20
    rw [show xs 3 = .agg (hC v) from hx 3 (by decide)] at e19
    obtain ⟨w6, hst6, hr6, hg6⟩ := storeSaidH hs (hr2.later hL4) j (okH_lt hj) v hv
    refine last_store rfl rfl e20 e19 hst6 ?_
    clear hx hk hgt e20 e19
    simp only [initL, lastL, putL, Nat.reduceAdd, Act.put, List.setIfInBounds_toArray, List.set_cons_succ, List.set_cons_zero]
    go_wp2_with fail
    go_end0
    rw [HN.out]
    have hsz5 : w1.heap.size ≤ w5.heap.size := hs3.size
    have hm4 : Moved W gr D l l1 false := hm3.same (Same.of_below hL4.below) (by obtain ⟨D', c', h', _⟩ := hm3; exact h'.lt)
    have hglW : gr < W.heap.size := by obtain ⟨D', c', h', _⟩ := hm4; exact h'.lt
    unfold Took
    refine ⟨((Same.of_below hL.below).mono fun k h => h.1).trans ((hs3.mono fun k h => ⟨Nat.lt_of_lt_of_le h.1 hsz, h.2.1⟩).trans (((Same.of_below hL4.below).mono fun k h => Nat.lt_of_lt_of_le h.1 (Nat.le_trans hsz hsz5)).trans ((Same.of_grown hg6).mono fun k h => ⟨Nat.lt_of_lt_of_le h.1 (Nat.le_trans (Nat.le_trans hsz hsz5) hL4.size), fun e => h.2.2 (Option.some.inj e)⟩))), .inl ⟨rfl, rfl, ?_, ?_⟩⟩
    · exact Moved.trans hR (hm4.same (Same.of_grown hg6) ⟨hglW, fun e => hgr (Option.some.inj e)⟩)
    · show Row w6 g _ (saidC (s.setH j (pad32 v)))
      rw [show pad32 v = v from if_pos hv]
      exact hr6
  · rw [hn] at hnum
    have HN := Lib.hid hn
    have HNUM := Lib.hid hnum
    clear hn hnum
    go_wp2_with (first
      | (go_at_call 119; refine HNUM.out.mono ?_; rintro e w2 ⟨hs2, rfl, hm2⟩; obtain ⟨w3, hst, kh, hL3⟩ := newH w2 [] (by decide))
      | (with_reducible refine wpList_alloc rfl 24 rfl (allocH _) ?_)
      | (guard_target =~ wpList _ _ _ (_ :: _) _ _; refine wpList_store rfl 24 (.tmp 5) (.tmp 11) rfl (.pointer (some ⟨w2.heap.size, 0, none⟩)) (.agg (hC [])) rfl rfl hst ?_)
      | (go_at_call 43; refine (mmust_no _).mono ?_; rintro e w5 ⟨rfl, rfl⟩)
      | fail)
    rw [HN.out]
    refine ⟨rfl, ((Same.of_below hL.below).mono fun k h => h.1).trans ((hs2.mono fun k h => ⟨Nat.lt_of_lt_of_le h.1 hsz, h.2.1⟩).trans ((Same.of_below hL3.below).mono fun k h => Nat.lt_of_lt_of_le h.1 (Nat.le_trans hsz hs2.size))), .inr ⟨rfl, rfl, (hr1.same hs2 ⟨hr1.lt, fun e => hgr e.symm⟩).later hL3⟩⟩
set_option maxRecDepth 100000 in
theorem takeR_any (gr : Nat) (A0 : Option Addr) (l0 l : List UInt8) (g : Nat) (s : Said) (w : World) (hs : s.wf) (hmv : Moved w gr A0 l0 l false) (hrd : Rd w A0 l0) (hr : Row w g 29 (saidC s)) :
    Calls Tryz.prog 124 #[.agg #[.pointer (some ⟨gr, 0, none⟩)], .pointer (some ⟨g, 0, none⟩)] w (Took gr A0 l0 g s w (take1 ⟨l, false, s⟩ .route)) := by
  obtain ⟨D, c, hrow, hc, hcm, hR⟩ := hmv
  have hgr : gr ≠ g := fun e => by subst e; exact absurd (Row.type hrow hr) (by decide)
  have hL : Later w (w.alloc (.cells #[.pointer (some ⟨gr, 0, none⟩)] 96)) := (Later.refl w).alloc _
  have k4 := Row.new w 96 #[.pointer (some ⟨gr, 0, none⟩)]
  have hnum := text_mv gr l false 512 _ D c (hrow.later hL) hc hcm ((hR w hrd).later hL)
  have hr1 := hr.later hL
  have hglt := hr.lt
  have hrlt := hrow.lt
  clear hr hrow hrd
  unfold take1
  have hsz : w.heap.size ≤ (w.alloc (.cells #[.pointer (some ⟨gr, 0, none⟩)] 96)).heap.size := hL.size
  go_enter Tryz.func124, Tryz.ntmps124
  go_upto_region 1 with fail
  have c4 : (w.alloc (.cells #[.pointer (some ⟨gr, 0, none⟩)] 96)).cell? ⟨w.heap.size, 0, none⟩ = some (.pointer (some ⟨gr, 0, none⟩)) := (k4.cell 0).trans rfl
  generalize hW1 : w.alloc (.cells #[.pointer (some ⟨gr, 0, none⟩)] 96) = w1 at *
  clear hW1 k4
  rcases Wr.textR_two l 512 (by decide) with ⟨l1, n, hn⟩ | ⟨l1, hn⟩
  · rw [hn] at hnum
    have HN := Lib.hid hn
    have HNUM := Lib.hid hnum
    clear hn hnum
    go_upto_region 3 with (first
      | (go_at_call 125; refine HNUM.out.mono ?_; rintro e w2 ⟨hs2, rfl, hm2⟩)
      | (go_at_call 43; refine (mmust_ok _).mono ?_; rintro e w5 ⟨rfl, rfl⟩)
      | fail)
    have hr2 := hr1.same hs2 ⟨hr1.lt, fun e => hgr e.symm⟩
    obtain ⟨hst, hr3⟩ := storeSaidR hs hr2 n
    have HST := Lib.hid hst
    have HR3 := Lib.hid hr3
    have HS := Lib.hid hs2
    have HM := Lib.hid hm2
    clear hr2 hr3 hs2 hm2 hst hr1 c4
    go_wp2_with (first
      | (guard_target =~ wpList _ _ _ (_ :: _) _ _; refine wpList_store rfl 9 (.tmp 18) (.tmp 16) rfl (.pointer (some ⟨g, 301, none⟩)) (.string ⟨n.toArray⟩) rfl rfl HST.out ?_)
      | fail)
    go_end0
    rw [HN.out]
    unfold Took
    refine ⟨((Same.of_below hL.below).mono fun k h => h.1).trans ((HS.out.mono fun k h => ⟨Nat.lt_of_lt_of_le h.1 hsz, h.2.1⟩).trans ((Same.set _ ⟨g, 301, none⟩ _).mono fun k h => h.2.2)), .inl ⟨rfl, rfl, ?_, HR3.out⟩⟩
    exact (Moved.trans hR HM.out).far hgr _
  · rw [hn] at hnum
    have HN := Lib.hid hn
    have HNUM := Lib.hid hnum
    clear hn hnum
    go_wp2_with (first
      | (go_at_call 125; refine HNUM.out.mono ?_; rintro e w2 ⟨hs2, rfl, hm2⟩)
      | (go_at_call 43; refine (mmust_no _).mono ?_; rintro e w5 ⟨rfl, rfl⟩)
      | fail)
    rw [HN.out]
    refine ⟨rfl, ((Same.of_below hL.below).mono fun k h => h.1).trans (hs2.mono fun k h => ⟨Nat.lt_of_lt_of_le h.1 hsz, h.2.1⟩), .inr ⟨rfl, rfl, hr1.same hs2 ⟨hr1.lt, fun e => hgr e.symm⟩⟩⟩
def mostOk : Fld → Prop
  | .num _ m => 0 ≤ m
  | _ => True
theorem mtake_any (f : Fld) (cs : Array Value) (gr : Nat) (A0 : Option Addr) (l0 l : List UInt8) (g : Nat) (s : Said) (w : World) (hs : s.wf) (hp : PartC w cs f) (ho : mostOk f) (hmv : Moved w gr A0 l0 l false) (hrd : Rd w A0 l0) (hr : Row w g 29 (saidC s)) :
    ∃ F caps, cs[1]? = some (.func (.func F) #[] caps) ∧ (∀ args w, (callFunc F args).run Tryz.prog w = .ok (.enter F args) w) ∧ Calls Tryz.prog F (#[.agg #[.pointer (some ⟨gr, 0, none⟩)], .pointer (some ⟨g, 0, none⟩)] ++ caps) w (Took gr A0 l0 g s w (take1 ⟨l, false, s⟩ f)) := by
  cases f with
  | num j m =>
    obtain ⟨h1, h2, bm, bt, rfl, r1, r2⟩ := hp
    exact ⟨_, _, rfl, enters_of Tryz.func114 (by kernel_rfl) rfl, takeN_any gr A0 l0 l g j bm bt m s w hs h1 h2 ho hmv hrd hr r1 r2⟩
  | hash j =>
    obtain ⟨h1, bt, rfl, r1⟩ := hp
    exact ⟨_, _, rfl, enters_of Tryz.func118 (by kernel_rfl) rfl, takeH_any gr A0 l0 l g j bt s w hs h1 hmv hrd hr r1⟩
  | route =>
    obtain rfl : cs = partR := hp
    exact ⟨_, _, rfl, enters_of Tryz.func124 (by kernel_rfl) rfl, takeR_any gr A0 l0 l g s w hs hmv hrd hr⟩
end Go.Proofs.YtcajhdmppfiaeaaGreat
namespace Go.Proofs.YtcajhdmppfiaeaaGreat
open Go.RowKit Ms
section
variable {P : Program}
theorem eqFields_cons (d : Nat) (xs ys : Array Value) (f : Field) (fs : List Field) {T : TypeId} {off : Nat} {a c : Value} {b r : Bool} {w : World} (hn : decide (f.name = "_") = false) (hT : f.type = T) (ho : f.offset = off) (h1 : ∀ w, (part T xs off).run P w = .ok a w) (h2 : ∀ w, (part T ys off).run P w = .ok c w) (he : ∀ w, (Op.equalIn d T a c).run P w = .ok b w) (hr : (Op.eqFields d xs ys fs).run P w = .ok r w) : (Op.eqFields d xs ys (f :: fs)).run P w = .ok (b && r) w := by
  subst hT ho
  unfold Op.eqFields
  rw [if_pos (of_decide_eq_false hn)]
  simp only [Sem.run_bind, h1, h2, he, Result.andThen_ok]
  cases b
  · simp
  · simpa using hr
theorem eqFields_nil (d : Nat) (xs ys : Array Value) (w : World) : (Op.eqFields d xs ys []).run P w = .ok true w := by simp [Op.eqFields]
theorem eqItems_cons (d : Nat) (e : TypeId) (n : Nat) (xs ys : Array Value) (i : Nat) (is : List Nat) {a c : Value} {b r : Bool} {w : World} (h1 : ∀ w, (part e xs (i * n)).run P w = .ok a w) (h2 : ∀ w, (part e ys (i * n)).run P w = .ok c w) (he : ∀ w, (Op.equalIn d e a c).run P w = .ok b w) (hr : (Op.eqItems d e n xs ys is).run P w = .ok r w) : (Op.eqItems d e n xs ys (i :: is)).run P w = .ok (b && r) w := by
  unfold Op.eqItems
  simp only [Sem.run_bind, h1, h2, he, Result.andThen_ok]
  cases b
  · simp
  · simpa using hr
theorem eqItems_nil (d : Nat) (e : TypeId) (n : Nat) (xs ys : Array Value) (w : World) : (Op.eqItems d e n xs ys []).run P w = .ok true w := by simp [Op.eqItems]
end
theorem part64 {cs : Array Value} {off : Nat} {v : Value} (h : cs[off]? = some v) (w : World) : (part 2 cs off).run Tryz.prog w = .ok v w := by
  unfold part
  go_simp
theorem partKind {cs : Array Value} {off : Nat} {v : Value} (h : cs[off]? = some v) (w : World) : (part 22 cs off).run Tryz.prog w = .ok v w := by
  unfold part
  go_simp
theorem partStr {cs : Array Value} {off : Nat} {v : Value} (h : cs[off]? = some v) (w : World) : (part 9 cs off).run Tryz.prog w = .ok v w := by
  unfold part
  go_simp
theorem partHash0 (cs : Array Value) (off : Nat) (w : World) : (part 24 cs off).run Tryz.prog w = .ok (.agg (cs.extract off (off + 32))) w := by
  unfold part
  go_simp
theorem partTerms (cs : Array Value) (off : Nat) (w : World) : (part 27 cs off).run Tryz.prog w = .ok (.agg (cs.extract off (off + 101))) w := by
  unfold part
  go_simp
theorem partKeys (cs : Array Value) (off : Nat) (w : World) : (part 25 cs off).run Tryz.prog w = .ok (.agg (cs.extract off (off + 64))) w := by
  unfold part
  go_simp
theorem extract_of {cs vs : Array Value} {o n : Nat} (hn : vs.size = n) (hc : o + n ≤ cs.size) (h : ∀ j, j < n → cs[o + j]? = vs[j]?) : cs.extract o (o + n) = vs := by
  apply Array.ext_getElem?
  intro j
  rw [Array.getElem?_extract]
  by_cases hj : j < n
  · rw [if_pos (by omega)]
    exact h j hj
  · rw [if_neg (by omega), Array.getElem?_eq_none (by omega)]
theorem partHash {cs : Array Value} {off : Nat} {h : List UInt8} (hl : h.length = 32) (hs : off + 32 ≤ cs.size) (hg : ∀ i, i < 32 → cs[off + i]? = (hC h)[i]?) (w : World) : (part 24 cs off).run Tryz.prog w = .ok (.agg (hC h)) w := by
  rw [partHash0, extract_of (hC_size _ (Nat.le_of_eq hl)) hs hg]
noncomputable def fld (T : TypeId) (i : Nat) : Field := (Tryz.prog.fieldsOf T).toList.getD i default
theorem flds_said : (Tryz.prog.fieldsOf 29).toList = [fld 29 0, fld 29 1, fld 29 2, fld 29 3, fld 29 4, fld 29 5, fld 29 6, fld 29 7, fld 29 8, fld 29 9, fld 29 10, fld 29 11, fld 29 12, fld 29 13, fld 29 14, fld 29 15] := by kernel_rfl
theorem flds_terms : (Tryz.prog.fieldsOf 27).toList = [fld 27 0, fld 27 1, fld 27 2, fld 27 3, fld 27 4, fld 27 5, fld 27 6] := by kernel_rfl
theorem eqHash (d : Nat) (a b : List UInt8) (ha : a.length = 32) (hb : b.length = 32) (w : World) : (Op.equalIn (d + 2) 24 (.agg (hC a)) (.agg (hC b))).run Tryz.prog w = .ok (a == b) w := by
  rw [hC_cells a ha, hC_cells b hb, run_equalIn_bytes w d 24 5 32 Tryz.underlying24 Tryz.underlying5 (fun w => by kernel_rfl) a b ha hb]
def termsC (s : Said) : Array Value := (saidC s).extract 1 102
theorem termsC_size {s : Said} (h : s.wf) : (termsC s).size = 101 := by
  unfold termsC
  rw [Array.size_extract, saidC_size h]
  rfl
theorem termsC_get {s : Said} (h : s.wf) (i : Nat) (hi : i < 101) : (termsC s)[i]? = (saidC s)[1 + i]? := by
  unfold termsC
  rw [Array.getElem?_extract, if_pos (by rw [saidC_size h]; omega)]
theorem termsC_n {s : Said} (h : s.wf) (j : Nat) (hj : j < 5) : (termsC s)[32 + j]? = some (.int .i64 (s.n j)) := by
  rw [termsC_get h _ (by omega)]
  have := saidC_n h j (by omega)
  rcases j with _ | _ | _ | _ | _ | j
  all_goals first | exact this | omega
theorem termsC_fund {s : Said} (h : s.wf) (i : Nat) (hi : i < 32) : (termsC s)[0 + i]? = (hC s.fund)[i]? := by
  rw [termsC_get h _ (by omega), Nat.zero_add]
  exact saidC_h h 0 (by decide) i hi
theorem termsC_key {s : Said} (h : s.wf) (k : Nat) (hk : k < 2) (i : Nat) (hi : i < 32) : (termsC s)[37 + k * 32 + i]? = (hC (s.h (1 + k)))[i]? := by
  rw [termsC_get h _ (by omega)]
  have := saidC_h h (1 + k) (by omega) i hi
  rcases k with _ | _ | k
  · rw [← this]; congr 1; show 1 + (37 + 0 * 32 + i) = 38 + i; omega
  · rw [← this]; congr 1; show 1 + (37 + 1 * 32 + i) = 70 + i; omega
  · omega
theorem nm {T : TypeId} {i : Nat} (h : decide ((fld T i).name = "_") = false) : decide ((fld T i).name = "_") = false := h
set_option maxRecDepth 100000 in
theorem eqKeys (d : Nat) {s s' : Said} (h : s.wf) (h' : s'.wf) (w : World) : (Op.equalIn (d + 3) 25 (.agg ((termsC s).extract 37 (37 + 64))) (.agg ((termsC s').extract 37 (37 + 64)))).run Tryz.prog w = .ok ((s.key0 == s'.key0) && ((s.key1 == s'.key1) && true)) w := by
  obtain ⟨i, hi, hic⟩ := Option.map_eq_some_iff.1 infoH
  rw [run_equalIn_array w (d + 2) (e := 24) (n := 2) (i := i) _ _ Tryz.underlying25 hi, show Tryz.prog.cellsOf 24 = 32 by kernel_rfl, show List.range 2 = [0, 1] from rfl]
  have hp : ∀ (s : Said), s.wf → ∀ k, k < 2 → ∀ w, (part 24 ((termsC s).extract 37 (37 + 64)) (k * 32)).run Tryz.prog w = .ok (.agg (hC (s.h (1 + k)))) w := fun s h k hk w =>
    partHash (h (1 + k) (by omega)) (by rw [Array.size_extract, termsC_size h]; omega) (fun i hi => by
      rw [Array.getElem?_extract, if_pos (by rw [termsC_size h]; omega), ← termsC_key h k hk i hi]
      congr 1
      omega) w
  exact eqItems_cons (d + 2) _ 32 _ _ 0 [1] (hp s h 0 (by decide)) (hp s' h' 0 (by decide)) (eqHash d _ _ (h 1 (by decide)) (h' 1 (by decide)))
    (eqItems_cons (d + 2) _ 32 _ _ 1 [] (hp s h 1 (by decide)) (hp s' h' 1 (by decide)) (eqHash d _ _ (h 2 (by decide)) (h' 2 (by decide))) (eqItems_nil _ _ _ _ _ _))
def tEq (s s' : Said) : Bool := (s.fund == s'.fund) && ((s.tix == s'.tix) && ((s.cap == s'.cap) && ((s.dust == s'.dust) && ((s.fee == s'.fee) && ((s.delay == s'.delay) && (((s.key0 == s'.key0) && ((s.key1 == s'.key1) && true)) && true))))))
theorem eq64 (d : Nat) (a b : Int) (w : World) : (Op.equalIn (d + 1) 2 (.int .i64 a) (.int .i64 b)).run Tryz.prog w = .ok (a == b) w := run_equalIn_int w _ _ _ _ _ _ Tryz.underlying2
set_option maxRecDepth 100000 in
theorem eqTerms (d : Nat) {s s' : Said} (h : s.wf) (h' : s'.wf) (w : World) : (Op.equalIn (d + 4) 27 (.agg (termsC s)) (.agg (termsC s'))).run Tryz.prog w = .ok (tEq s s') w := by
  rw [run_equalIn_struct w (d + 3) _ _ _ (by kernel_rfl) (by kernel_rfl), flds_terms]
  unfold tEq
  have hf : ∀ (s : Said), s.wf → ∀ w, (part 24 (termsC s) 0).run Tryz.prog w = .ok (.agg (hC s.fund)) w := fun s h w =>
    partHash (h 0 (by decide)) (by rw [termsC_size h]; decide) (termsC_fund h) w
  refine eqFields_cons _ _ _ _ _ (T := 24) (off := 0) (by kernel_rfl) (by kernel_rfl) (by kernel_rfl) (hf s h) (hf s' h') (eqHash (d + 1) _ _ (h 0 (by decide)) (h' 0 (by decide))) ?_
  refine eqFields_cons _ _ _ _ _ (T := 2) (off := 32) (by kernel_rfl) (by kernel_rfl) (by kernel_rfl) (part64 (termsC_n h 0 (by decide))) (part64 (termsC_n h' 0 (by decide))) (eq64 _ _ _) ?_
  refine eqFields_cons _ _ _ _ _ (T := 2) (off := 33) (by kernel_rfl) (by kernel_rfl) (by kernel_rfl) (part64 (termsC_n h 1 (by decide))) (part64 (termsC_n h' 1 (by decide))) (eq64 _ _ _) ?_
  refine eqFields_cons _ _ _ _ _ (T := 2) (off := 34) (by kernel_rfl) (by kernel_rfl) (by kernel_rfl) (part64 (termsC_n h 2 (by decide))) (part64 (termsC_n h' 2 (by decide))) (eq64 _ _ _) ?_
  refine eqFields_cons _ _ _ _ _ (T := 2) (off := 35) (by kernel_rfl) (by kernel_rfl) (by kernel_rfl) (part64 (termsC_n h 3 (by decide))) (part64 (termsC_n h' 3 (by decide))) (eq64 _ _ _) ?_
  refine eqFields_cons _ _ _ _ _ (T := 2) (off := 36) (by kernel_rfl) (by kernel_rfl) (by kernel_rfl) (part64 (termsC_n h 4 (by decide))) (part64 (termsC_n h' 4 (by decide))) (eq64 _ _ _) ?_
  refine eqFields_cons _ _ _ _ _ (T := 25) (off := 37) (by kernel_rfl) (by kernel_rfl) (by kernel_rfl) (partKeys _ _) (partKeys _ _) (eqKeys d h h') ?_
  exact eqFields_nil _ _ _ _
theorem partTerms1 (s : Said) (w : World) : (part 27 (saidC s) 1).run Tryz.prog w = .ok (.agg (termsC s)) w := partTerms _ 1 w
theorem partHs {s : Said} (h : s.wf) (j : Nat) (hj : j < 9) (w : World) : (part 24 (saidC s) (offH j)).run Tryz.prog w = .ok (.agg (hC (s.h j))) w :=
  partHash (h j hj) (by rw [saidC_size h]; exact offH_le j hj) (saidC_h h j hj) w
def sEq (s s' : Said) : Bool := (s.kind == s'.kind) && (tEq s s' && ((s.reserve == s'.reserve) && ((s.amount == s'.amount) && ((s.point == s'.point) && ((s.next == s'.next) && ((s.key == s'.key) && ((s.hash == s'.hash) && ((s.tag == s'.tag) && ((s.secret == s'.secret) && ((s.id == s'.id) && ((s.number == s'.number) && ((s.index == s'.index) && ((s.expiry == s'.expiry) && ((s.code == s'.code) && (((⟨s.route.toArray⟩ : ByteArray).toList == (⟨s'.route.toArray⟩ : ByteArray).toList) && true)))))))))))))))
theorem sEq_iff (s s' : Said) : sEq s s' = decide (s = s') := by
  have e : ∀ l : List UInt8, (⟨l.toArray⟩ : ByteArray).toList = l := fun l => by rw [ByteArray.toList_eq]
  unfold sEq tEq
  rw [e, e, Bool.eq_iff_iff]
  obtain ⟨a1, a2, a3, a4, a5, a6, a7, a8, a9, a10, a11, a12, a13, a14, a15, a16, a17, a18, a19, a20, a21, a22, a23⟩ := s
  obtain ⟨b1, b2, b3, b4, b5, b6, b7, b8, b9, b10, b11, b12, b13, b14, b15, b16, b17, b18, b19, b20, b21, b22, b23⟩ := s'
  simp only [Bool.and_eq_true, beq_iff_eq, and_true, decide_eq_true_eq, Said.mk.injEq]
  constructor
  · rintro ⟨h1, ⟨h2, h3, h4, h5, h6, h7, h8, h9⟩, h10, h11, h12, h13, h14, h15, h16, h17, h18, h19, h20, h21, h22, h23⟩
    exact ⟨h1, h2, h3, h4, h5, h6, h7, h8, h9, h10, h11, h12, h13, h14, h15, h16, h17, h18, h19, h20, h21, h22, h23⟩
  · rintro ⟨h1, h2, h3, h4, h5, h6, h7, h8, h9, h10, h11, h12, h13, h14, h15, h16, h17, h18, h19, h20, h21, h22, h23⟩
    exact ⟨h1, ⟨h2, h3, h4, h5, h6, h7, h8, h9⟩, h10, h11, h12, h13, h14, h15, h16, h17, h18, h19, h20, h21, h22, h23⟩
set_option maxRecDepth 100000 in
theorem eqSaid (d : Nat) {s s' : Said} (h : s.wf) (h' : s'.wf) (w : World) : (Op.equalIn (d + 5) 29 (.agg (saidC s)) (.agg (saidC s'))).run Tryz.prog w = .ok (decide (s = s')) w := by
  rw [run_equalIn_struct w (d + 4) _ _ _ (by kernel_rfl) (by kernel_rfl), flds_said, ← sEq_iff]
  unfold sEq
  refine eqFields_cons _ _ _ _ _ (T := 22) (off := 0) (by kernel_rfl) (by kernel_rfl) (by kernel_rfl) (partKind (saidC_kind h)) (partKind (saidC_kind h')) (fun w => run_equalIn_int w _ _ _ _ _ _ Tryz.underlying22) ?_
  refine eqFields_cons _ _ _ _ _ (T := 27) (off := 1) (by kernel_rfl) (by kernel_rfl) (by kernel_rfl) (partTerms1 s) (partTerms1 s') (eqTerms d h h') ?_
  refine eqFields_cons _ _ _ _ _ (T := 2) (off := 102) (by kernel_rfl) (by kernel_rfl) (by kernel_rfl) (part64 (saidC_n h 5 (by decide))) (part64 (saidC_n h' 5 (by decide))) (eq64 _ _ _) ?_
  refine eqFields_cons _ _ _ _ _ (T := 2) (off := 103) (by kernel_rfl) (by kernel_rfl) (by kernel_rfl) (part64 (saidC_n h 6 (by decide))) (part64 (saidC_n h' 6 (by decide))) (eq64 _ _ _) ?_
  refine eqFields_cons _ _ _ _ _ (T := 24) (off := 104) (by kernel_rfl) (by kernel_rfl) (by kernel_rfl) (partHs h 3 (by decide)) (partHs h' 3 (by decide)) (eqHash (d + 2) _ _ (h 3 (by decide)) (h' 3 (by decide))) ?_
  refine eqFields_cons _ _ _ _ _ (T := 24) (off := 136) (by kernel_rfl) (by kernel_rfl) (by kernel_rfl) (partHs h 4 (by decide)) (partHs h' 4 (by decide)) (eqHash (d + 2) _ _ (h 4 (by decide)) (h' 4 (by decide))) ?_
  refine eqFields_cons _ _ _ _ _ (T := 24) (off := 168) (by kernel_rfl) (by kernel_rfl) (by kernel_rfl) (partHs h 5 (by decide)) (partHs h' 5 (by decide)) (eqHash (d + 2) _ _ (h 5 (by decide)) (h' 5 (by decide))) ?_
  refine eqFields_cons _ _ _ _ _ (T := 24) (off := 200) (by kernel_rfl) (by kernel_rfl) (by kernel_rfl) (partHs h 6 (by decide)) (partHs h' 6 (by decide)) (eqHash (d + 2) _ _ (h 6 (by decide)) (h' 6 (by decide))) ?_
  refine eqFields_cons _ _ _ _ _ (T := 24) (off := 232) (by kernel_rfl) (by kernel_rfl) (by kernel_rfl) (partHs h 7 (by decide)) (partHs h' 7 (by decide)) (eqHash (d + 2) _ _ (h 7 (by decide)) (h' 7 (by decide))) ?_
  refine eqFields_cons _ _ _ _ _ (T := 24) (off := 264) (by kernel_rfl) (by kernel_rfl) (by kernel_rfl) (partHs h 8 (by decide)) (partHs h' 8 (by decide)) (eqHash (d + 2) _ _ (h 8 (by decide)) (h' 8 (by decide))) ?_
  refine eqFields_cons _ _ _ _ _ (T := 2) (off := 296) (by kernel_rfl) (by kernel_rfl) (by kernel_rfl) (part64 (saidC_n h 7 (by decide))) (part64 (saidC_n h' 7 (by decide))) (eq64 _ _ _) ?_
  refine eqFields_cons _ _ _ _ _ (T := 2) (off := 297) (by kernel_rfl) (by kernel_rfl) (by kernel_rfl) (part64 (saidC_n h 8 (by decide))) (part64 (saidC_n h' 8 (by decide))) (eq64 _ _ _) ?_
  refine eqFields_cons _ _ _ _ _ (T := 2) (off := 298) (by kernel_rfl) (by kernel_rfl) (by kernel_rfl) (part64 (saidC_n h 9 (by decide))) (part64 (saidC_n h' 9 (by decide))) (eq64 _ _ _) ?_
  refine eqFields_cons _ _ _ _ _ (T := 2) (off := 299) (by kernel_rfl) (by kernel_rfl) (by kernel_rfl) (part64 (saidC_n h 10 (by decide))) (part64 (saidC_n h' 10 (by decide))) (eq64 _ _ _) ?_
  refine eqFields_cons _ _ _ _ _ (T := 2) (off := 300) (by kernel_rfl) (by kernel_rfl) (by kernel_rfl) (part64 (saidC_n h 11 (by decide))) (part64 (saidC_n h' 11 (by decide))) (eq64 _ _ _) ?_
  refine eqFields_cons _ _ _ _ _ (T := 9) (off := 301) (by kernel_rfl) (by kernel_rfl) (by kernel_rfl) (partStr (saidC_route h)) (partStr (saidC_route h')) (fun w => run_equalIn_string w _ _ _ _ Tryz.underlying9) ?_
  exact eqFields_nil _ _ _ _
theorem eqlSaid {s s' : Said} (h : s.wf) (h' : s'.wf) (w : World) : (binOp .eql 29 (.agg (saidC s)) (.agg (saidC s'))).run Tryz.prog w = .ok (.bool (decide (s = s'))) w := by
  rw [run_eql_struct, eqSaid 9995 h h']
  rfl
theorem neqSaid {s s' : Said} (h : s.wf) (h' : s'.wf) (w : World) : (binOp .neq 29 (.agg (saidC s)) (.agg (saidC s'))).run Tryz.prog w = .ok (.bool (!decide (s = s'))) w := by
  rw [run_neq_struct, eqSaid 9995 h h']
  rfl
end Go.Proofs.YtcajhdmppfiaeaaGreat
namespace Go.Proofs.YtcajhdmppfiaeaaGreat
open Go.RowKit Ms
def inB (n a b : Int) : Bool := decide (a ≤ n) && decide (n ≤ b)
theorem min_any (n a b : Int) (w : World) : Calls Tryz.prog 34 #[.int .i64 n, .int .i64 a, .int .i64 b] w fun e w' => w' = w ∧ e = .returned (.bool (inB n a b)) := by
  unfold inB
  by_cases h : a ≤ n
  · have hd : decide (a ≤ n) = true := decide_eq_true h
    rw [hd, Bool.true_and]
    obtain ⟨c, hc⟩ : ∃ c, decide (n ≤ b) = c := ⟨_, rfl⟩
    rw [hc]
    go_enter Tryz.func34, Tryz.ntmps34
    go_wp2
    go_ret
    exact ⟨rfl, rfl⟩
  · have hd : decide (a ≤ n) = false := decide_eq_false h
    rw [hd, Bool.false_and]
    go_enter Tryz.func34, Tryz.ntmps34
    go_wp2
    go_ret
    exact ⟨rfl, rfl⟩
theorem cin_any (n a b : Int) (w : World) : Calls Tryz.prog 144 #[.int .i64 n, .int .i64 a, .int .i64 b] w fun e w' => w' = w ∧ e = .returned (.bool (inB n a b)) := by
  unfold inB
  by_cases h : a ≤ n
  · have hd : decide (a ≤ n) = true := decide_eq_true h
    rw [hd, Bool.true_and]
    obtain ⟨c, hc⟩ : ∃ c, decide (n ≤ b) = c := ⟨_, rfl⟩
    rw [hc]
    go_enter Tryz.func144, Tryz.ntmps144
    go_wp2
    go_ret
    exact ⟨rfl, rfl⟩
  · have hd : decide (a ≤ n) = false := decide_eq_false h
    rw [hd, Bool.false_and]
    go_enter Tryz.func144, Tryz.ntmps144
    go_wp2
    go_ret
    exact ⟨rfl, rfl⟩
theorem bindex_any (A : Option Addr) (n c : Nat) (l : List Bool) (w : World) (hn : l.length = n) (hm : n ≤ 1000000000) (hr : RdV w A (l.map Value.bool)) :
    Calls Tryz.prog 152 #[.slice A n c, .bool false] w fun e w' => w' = w ∧ ∃ k : Int, e = .returned (.int .i64 k) ∧ decide (0 ≤ k) = !l.all id := by
  have HN := Lib.hid hn
  clear hn
  go_enter Tryz.func152, Tryz.ntmps152
  go_wp2_with fail
  go_loopw [8] (fun t wr => wr = w ∧ ∃ i : Nat, i ≤ n ∧ t = .int .i64 (i : Int) ∧ (l.take i).all id = true) (fun t _ => n - (intOf t).toNat)
  case atStart => exact ⟨rfl, 0, by omega, rfl, rfl⟩
  case round =>
    obtain ⟨rfl, i, hi, rfl, hall⟩ := hrel
    by_cases hlt : i < n
    · have hd : decide ((i : Int) < (n : Int)) = true := decide_eq_true (by omega)
      have hd' : decide (i < n) = true := decide_eq_true hlt
      have hil : i < l.length := by rw [HN.out]; exact hlt
      obtain ⟨b, o, rfl, hc⟩ := hr.at_ (k := i) (by simpa using hil)
      rw [List.getElem_map] at hc
      have hnx : l.take (i + 1) = l.take i ++ [l[i]] := List.take_succ_eq_append_getElem hil
      have hsp : l = l.take i ++ (l[i] :: l.drop (i + 1)) := by simp
      generalize hx : l[i] = x at *
      have HNX := Lib.hid hnx
      have HSP := Lib.hid hsp
      clear hnx hsp hr
      cases x
      · go_wp2_with fail
        go_ret
        refine ⟨rfl, _, rfl, ?_⟩
        rw [HSP.out]
        simp
      · go_wp2_with fail
        go_roundw
        case rel => exact ⟨trivial, i + 1, by omega, by go_num, by rw [HNX.out, List.all_append, hall]; simp⟩
        case measure => simp [intOf]; omega
    · obtain rfl : i = n := by omega
      have hd : decide ((i : Int) < (i : Int)) = false := decide_eq_false (by omega)
      rw [List.take_of_length_le (by rw [HN.out]; exact Nat.le_refl _)] at hall
      go_wp2_with fail
      go_ret
      exact ⟨rfl, _, rfl, by rw [hall]; rfl⟩
theorem ball_any (A : Option Addr) (n c : Nat) (l : List Bool) (w : World) (hn : l.length = n) (hm : n ≤ 1000000000) (hr : RdV w A (l.map Value.bool)) :
    Calls Tryz.prog 143 #[.slice A n c] w fun e w' => w' = w ∧ e = .returned (.bool (l.all id)) := by
  have hi := bindex_any A n c l w hn hm hr
  have hct : Calls Tryz.prog 148 #[.slice A n c, .bool false] w fun e w' => w' = w ∧ e = .returned (.bool (!l.all id)) := by
    go_enter Tryz.func148, Tryz.ntmps148
    go_wp2_with (first
      | (go_at_call 152; refine hi.mono ?_; clear hi; rintro e w2 ⟨rfl, k, rfl, hk⟩)
      | fail)
    go_ret
    exact ⟨rfl, by rw [← hk]; rfl⟩
  obtain ⟨b, hb⟩ : ∃ b, l.all id = b := ⟨_, rfl⟩
  rw [hb] at hct ⊢
  clear hi hb
  go_enter Tryz.func143, Tryz.ntmps143
  go_wp2_with (first
    | (go_at_call 148; refine hct.mono ?_; clear hct; rintro e w2 ⟨rfl, rfl⟩)
    | fail)
  go_ret
  exact ⟨rfl, by simp⟩
def Pr.bools (l : List Bool) : Pr := ⟨fun v W => ∃ b, v = .slice (some ⟨b, 0, none⟩) l.length l.length ∧ RdV W (some ⟨b, 0, none⟩) (l.map Value.bool), fun _ _ _ ⟨b, e, h⟩ hL => ⟨b, e, h.later hL⟩⟩
theorem build6 (a b c d e f : Bool) (w : World) : (Instr.buildSlice 195 6 #[(0, .bool a), (1, .bool b), (2, .bool c), (3, .bool d), (4, .bool e), (5, .bool f)]).run Tryz.prog w = .ok (.slice (some ⟨w.heap.size, 0, none⟩) 6 6) (w.alloc (.cells #[.bool a, .bool b, .bool c, .bool d, .bool e, .bool f] 4)) := by kernel_rfl
section
variable {w : World} {g : Nat} {s : Said} {T : TypeId}
theorem termsC_one (s : Said) : (termsC s).all (·.oneCell') = true := by
  rw [Array.all_eq_true_iff_forall_mem]
  intro v hv
  unfold termsC at hv
  obtain ⟨i, hi, e⟩ := Array.mem_iff_getElem.1 hv
  rw [Array.getElem_extract] at e
  exact Array.all_eq_true_iff_forall_mem.1 (saidC_one s) v (by rw [← e]; exact Array.getElem_mem _)
theorem infoTerms : (Tryz.prog.info? 27).map (·.size) = some 101 := by kernel_rfl
theorem infoCTerms : (Tryz.prog.info? 183).map (·.size) = some 101 := by kernel_rfl
theorem boxTerms (h : s.wf) (w : World) : (Instr.box 27 (.agg (termsC s))).run Tryz.prog w = .ok (.pointer (some ⟨w.heap.size, 0, none⟩)) (w.alloc (.cells (termsC s) 27)) := run_box_row w _ _ (by rw [termsC_size h]; exact infoTerms)
theorem boxCTerms (h : s.wf) (w : World) : (Instr.box 183 (.agg (termsC s))).run Tryz.prog w = .ok (.pointer (some ⟨w.heap.size, 0, none⟩)) (w.alloc (.cells (termsC s) 183)) := run_box_row w _ _ (by rw [termsC_size h]; exact infoCTerms)
theorem loadTerms (h : s.wf) (hr : Row w g 27 (termsC s)) : (Instr.loadAt 27 (.pointer (some ⟨g, 0, none⟩))).run Tryz.prog w = .ok (.agg (termsC s)) w :=
  run_load_row hr Tryz.underlying27 rfl (by rw [termsC_size h]; exact infoTerms)
theorem buildCTerms0 (f : Nat → Value) (w : World) : (Instr.build 183 #[(0, .agg ((List.range 101).map f).toArray)]).run Tryz.prog w = .ok (.agg ((List.range 101).map f).toArray) w := by kernel_rfl
theorem array_range (cs : Array Value) (n : Nat) (h : cs.size = n) : cs = ((List.range n).map fun i => cs.getD i undef).toArray := by
  apply Array.ext_getElem?
  intro i
  conv => rhs; rw [List.getElem?_toArray, List.getElem?_map]
  by_cases hi : i < n
  · rw [List.getElem?_range hi, Array.getElem?_eq_getElem (by omega)]
    simp [Array.getD, h, hi]
  · rw [Array.getElem?_eq_none (by omega), List.getElem?_eq_none (by simp; omega)]
    rfl
theorem buildCTerms (h : s.wf) (w : World) : (Instr.build 183 #[(0, .agg (termsC s))]).run Tryz.prog w = .ok (.agg (termsC s)) w := by
  rw [array_range (termsC s) 101 (termsC_size h)]
  exact buildCTerms0 _ w
theorem loadTermN (h : s.wf) (hr : Row w g T (termsC s)) (j : Nat) (hj : j < 5) : (Instr.loadAt 2 (.pointer (some ⟨g, 32 + j, none⟩))).run Tryz.prog w = .ok (.int .i64 (s.n j)) w := by
  have hc : w.cell? ⟨g, 32 + j, none⟩ = some (.int .i64 (s.n j)) := (hr.cell _).trans (termsC_n h j hj)
  go_simp
theorem loadTermK (h : s.wf) (hr : Row w g T (termsC s)) (k : Nat) (hk : k < 2) : (Instr.loadAt 24 (.pointer (some ⟨g, 37 + k * 32, none⟩))).run Tryz.prog w = .ok (.agg (hC (s.h (1 + k)))) w := by
  have hz := hC_size _ (Nat.le_of_eq (h (1 + k) (by omega)))
  exact run_load_part hr (fun i hi => termsC_key h k hk i (by omega)) Tryz.underlying24 rfl (by rw [hz]; exact infoH)
theorem fieldCT {W : World} : (Instr.fieldAt 183 (.pointer (some ⟨g, 0, none⟩)) 0).run Tryz.prog W = .ok (.pointer (some ⟨g, 0, none⟩)) W := by
  go_simp
theorem fieldT1 {W : World} : (Instr.fieldAt 27 (.pointer (some ⟨g, 0, none⟩)) 1).run Tryz.prog W = .ok (.pointer (some ⟨g, 32, none⟩)) W := by
  go_simp
theorem fieldT2 {W : World} : (Instr.fieldAt 27 (.pointer (some ⟨g, 0, none⟩)) 2).run Tryz.prog W = .ok (.pointer (some ⟨g, 33, none⟩)) W := by
  go_simp
theorem fieldT3 {W : World} : (Instr.fieldAt 27 (.pointer (some ⟨g, 0, none⟩)) 3).run Tryz.prog W = .ok (.pointer (some ⟨g, 34, none⟩)) W := by
  go_simp
theorem fieldT4 {W : World} : (Instr.fieldAt 27 (.pointer (some ⟨g, 0, none⟩)) 4).run Tryz.prog W = .ok (.pointer (some ⟨g, 35, none⟩)) W := by
  go_simp
theorem fieldT5 {W : World} : (Instr.fieldAt 27 (.pointer (some ⟨g, 0, none⟩)) 5).run Tryz.prog W = .ok (.pointer (some ⟨g, 36, none⟩)) W := by
  go_simp
theorem fieldT6 {W : World} : (Instr.fieldAt 27 (.pointer (some ⟨g, 0, none⟩)) 6).run Tryz.prog W = .ok (.pointer (some ⟨g, 37, none⟩)) W := by
  go_simp
theorem idxK0 {W : World} : (Instr.indexAt 25 (.pointer (some ⟨g, 37, none⟩)) (.int .i64 0)).run Tryz.prog W = .ok (.pointer (some ⟨g, 37, none⟩)) W := by
  go_simp
theorem idxK1 {W : World} : (Instr.indexAt 25 (.pointer (some ⟨g, 37, none⟩)) (.int .i64 1)).run Tryz.prog W = .ok (.pointer (some ⟨g, 69, none⟩)) W := by
  go_simp
end
def kD (s : Said) : Bool := !(s.key0 == s.key1)
def tmB (s : Said) : Bool := inB s.tix 0 23 && (inB s.cap 1000 1125899906842624 && (inB s.dust 1 500 && (inB s.fee 0 400 && (inB s.delay 1 1000 && ((kD s) && true)))))
set_option maxRecDepth 100000 in
set_option maxHeartbeats 1000000 in
theorem cright_any (s : Said) (hs : s.wf) (w : World) : Calls Tryz.prog 139 #[.agg (termsC s)] w fun e w' => e = .returned (.bool (tmB s)) ∧ Later w w' := by
  have kq := Row.new w 183 (termsC s)
  have hb := below_new w (.cells (termsC s) 183)
  have hbx := boxCTerms hs w
  have hk0 := hs 1 (by decide)
  have hk1 := hs 2 (by decide)
  have K0 := Lib.hid hk0
  have K1 := Lib.hid hk1
  clear hk0 hk1
  go_enter Tryz.func139, Tryz.ntmps139
  go_upto_region 1 with fail
  obtain ⟨q, hq⟩ : ∃ q, q = w.heap.size := ⟨_, rfl⟩
  rw [← hq] at kq ⊢
  generalize w.alloc (.cells (termsC s) 183) = w1 at *
  clear hq hbx
  refine (wpIn_wide (n := 0)).1 ?_
  refine wpIn_region_last wide_wide [Pr.eq (.pointer (some ⟨q, 0, none⟩)), Pr.eq (.pointer (some ⟨q, 32, none⟩)), Pr.eq (.int .i64 s.tix), Pr.eq (.bool (inB s.tix 0 23)), Pr.eq (.pointer (some ⟨q, 0, none⟩)), Pr.eq (.pointer (some ⟨q, 33, none⟩)), Pr.eq (.int .i64 s.cap), Pr.eq (.bool (inB s.cap 1000 1125899906842624)), Pr.eq (.pointer (some ⟨q, 0, none⟩)), Pr.eq (.pointer (some ⟨q, 34, none⟩)), Pr.eq (.int .i64 s.dust), Pr.eq (.bool (inB s.dust 1 500)), Pr.eq (.pointer (some ⟨q, 0, none⟩)), Pr.eq (.pointer (some ⟨q, 35, none⟩)), Pr.eq (.int .i64 s.fee), Pr.eq (.bool (inB s.fee 0 400)), Pr.eq (.pointer (some ⟨q, 0, none⟩)), Pr.eq (.pointer (some ⟨q, 36, none⟩)), Pr.eq (.int .i64 s.delay), Pr.eq (.bool (inB s.delay 1 1000)), Pr.eq (.pointer (some ⟨q, 0, none⟩)), Pr.eq (.pointer (some ⟨q, 37, none⟩)), Pr.eq (.pointer (some ⟨q, 37, none⟩)), Pr.eq (.agg (hC s.key0)), Pr.eq (.pointer (some ⟨q, 0, none⟩)), Pr.eq (.pointer (some ⟨q, 37, none⟩)), Pr.eq (.pointer (some ⟨q, 69, none⟩)), Pr.eq (.agg (hC s.key1)), Pr.eq (.bool (kD s)), Pr.bools [inB s.tix 0 23, inB s.cap 1000 1125899906842624, inB s.dust 1 500, inB s.fee 0 400, inB s.delay 1 1000, kD s], Pr.eq (.bool (tmB s))] (by kernel_rfl) (by kernel_rfl) (by kernel_rfl) (by kernel_rfl) (by kernel_rfl) (by kernel_rfl) rfl ⟨?_, ?_, ?_, ?_, ?_, ?_, ?_, ?_, ?_, ?_, ?_, ?_, ?_, ?_, ?_, ?_, ?_, ?_, ?_, ?_, ?_, ?_, ?_, ?_, ?_, ?_, ?_, ?_, ?_, ?_, ?_, trivial⟩ ?_
  · exact fun ac W hL he => stepOk_want rfl (op_fieldAddr rfl (he.keep (.tmp 1) (by kernel_rfl)) fieldCT rfl)
  · exact fun ac W hL he => stepOk_want rfl (op_fieldAddr rfl (he.get 0 3 (by kernel_rfl) rfl) fieldT1 rfl)
  · exact fun ac W hL he => stepOk_want rfl (op_load rfl (he.get 1 4 (by kernel_rfl) rfl) (loadTermN hs (kq.later hL) 0 (by decide)) rfl)
  · intro ac W hL he; refine stepOk_want rfl ?_; have e0 : ac.eval (.tmp 5) = .int .i64 s.tix := (he.get 2 5 (by kernel_rfl) rfl); exact op_callF (vs := #[.int .i64 s.tix, .int .i64 0, .int .i64 23]) rfl (by simp only [List.map_toArray, List.map_cons, List.map_nil, e0, (show ac.eval (.const (.int .i64 0)) = .int .i64 0 from rfl), (show ac.eval (.const (.int .i64 23)) = .int .i64 23 from rfl)]) (enters_of Tryz.func144 (by kernel_rfl) rfl) ((cin_any s.tix 0 23 W).mono fun e W' ⟨hw', he'⟩ => ⟨_, he', hw' ▸ Later.refl _, rfl⟩)
  · exact fun ac W hL he => stepOk_want rfl (op_fieldAddr rfl (he.keep (.tmp 1) (by kernel_rfl)) fieldCT rfl)
  · exact fun ac W hL he => stepOk_want rfl (op_fieldAddr rfl (he.get 4 7 (by kernel_rfl) rfl) fieldT2 rfl)
  · exact fun ac W hL he => stepOk_want rfl (op_load rfl (he.get 5 8 (by kernel_rfl) rfl) (loadTermN hs (kq.later hL) 1 (by decide)) rfl)
  · intro ac W hL he; refine stepOk_want rfl ?_; have e0 : ac.eval (.tmp 9) = .int .i64 s.cap := (he.get 6 9 (by kernel_rfl) rfl); exact op_callF (vs := #[.int .i64 s.cap, .int .i64 1000, .int .i64 1125899906842624]) rfl (by simp only [List.map_toArray, List.map_cons, List.map_nil, e0, (show ac.eval (.const (.int .i64 1000)) = .int .i64 1000 from rfl), (show ac.eval (.const (.int .i64 1125899906842624)) = .int .i64 1125899906842624 from rfl)]) (enters_of Tryz.func144 (by kernel_rfl) rfl) ((cin_any s.cap 1000 1125899906842624 W).mono fun e W' ⟨hw', he'⟩ => ⟨_, he', hw' ▸ Later.refl _, rfl⟩)
  · exact fun ac W hL he => stepOk_want rfl (op_fieldAddr rfl (he.keep (.tmp 1) (by kernel_rfl)) fieldCT rfl)
  · exact fun ac W hL he => stepOk_want rfl (op_fieldAddr rfl (he.get 8 11 (by kernel_rfl) rfl) fieldT3 rfl)
  · exact fun ac W hL he => stepOk_want rfl (op_load rfl (he.get 9 12 (by kernel_rfl) rfl) (loadTermN hs (kq.later hL) 2 (by decide)) rfl)
  · intro ac W hL he; refine stepOk_want rfl ?_; have e0 : ac.eval (.tmp 13) = .int .i64 s.dust := (he.get 10 13 (by kernel_rfl) rfl); exact op_callF (vs := #[.int .i64 s.dust, .int .i64 1, .int .i64 500]) rfl (by simp only [List.map_toArray, List.map_cons, List.map_nil, e0, (show ac.eval (.const (.int .i64 1)) = .int .i64 1 from rfl), (show ac.eval (.const (.int .i64 500)) = .int .i64 500 from rfl)]) (enters_of Tryz.func144 (by kernel_rfl) rfl) ((cin_any s.dust 1 500 W).mono fun e W' ⟨hw', he'⟩ => ⟨_, he', hw' ▸ Later.refl _, rfl⟩)
  · exact fun ac W hL he => stepOk_want rfl (op_fieldAddr rfl (he.keep (.tmp 1) (by kernel_rfl)) fieldCT rfl)
  · exact fun ac W hL he => stepOk_want rfl (op_fieldAddr rfl (he.get 12 15 (by kernel_rfl) rfl) fieldT4 rfl)
  · exact fun ac W hL he => stepOk_want rfl (op_load rfl (he.get 13 16 (by kernel_rfl) rfl) (loadTermN hs (kq.later hL) 3 (by decide)) rfl)
  · intro ac W hL he; refine stepOk_want rfl ?_; have e0 : ac.eval (.tmp 17) = .int .i64 s.fee := (he.get 14 17 (by kernel_rfl) rfl); exact op_callF (vs := #[.int .i64 s.fee, .int .i64 0, .int .i64 400]) rfl (by simp only [List.map_toArray, List.map_cons, List.map_nil, e0, (show ac.eval (.const (.int .i64 0)) = .int .i64 0 from rfl), (show ac.eval (.const (.int .i64 400)) = .int .i64 400 from rfl)]) (enters_of Tryz.func144 (by kernel_rfl) rfl) ((cin_any s.fee 0 400 W).mono fun e W' ⟨hw', he'⟩ => ⟨_, he', hw' ▸ Later.refl _, rfl⟩)
  · exact fun ac W hL he => stepOk_want rfl (op_fieldAddr rfl (he.keep (.tmp 1) (by kernel_rfl)) fieldCT rfl)
  · exact fun ac W hL he => stepOk_want rfl (op_fieldAddr rfl (he.get 16 19 (by kernel_rfl) rfl) fieldT5 rfl)
  · exact fun ac W hL he => stepOk_want rfl (op_load rfl (he.get 17 20 (by kernel_rfl) rfl) (loadTermN hs (kq.later hL) 4 (by decide)) rfl)
  · intro ac W hL he; refine stepOk_want rfl ?_; have e0 : ac.eval (.tmp 21) = .int .i64 s.delay := (he.get 18 21 (by kernel_rfl) rfl); exact op_callF (vs := #[.int .i64 s.delay, .int .i64 1, .int .i64 1000]) rfl (by simp only [List.map_toArray, List.map_cons, List.map_nil, e0, (show ac.eval (.const (.int .i64 1)) = .int .i64 1 from rfl), (show ac.eval (.const (.int .i64 1000)) = .int .i64 1000 from rfl)]) (enters_of Tryz.func144 (by kernel_rfl) rfl) ((cin_any s.delay 1 1000 W).mono fun e W' ⟨hw', he'⟩ => ⟨_, he', hw' ▸ Later.refl _, rfl⟩)
  · exact fun ac W hL he => stepOk_want rfl (op_fieldAddr rfl (he.keep (.tmp 1) (by kernel_rfl)) fieldCT rfl)
  · exact fun ac W hL he => stepOk_want rfl (op_fieldAddr rfl (he.get 20 23 (by kernel_rfl) rfl) fieldT6 rfl)
  · exact fun ac W hL he => stepOk_want rfl (op_idx rfl (he.get 21 24 (by kernel_rfl) rfl) rfl idxK0 rfl)
  · exact fun ac W hL he => stepOk_want rfl (op_load rfl (he.get 22 25 (by kernel_rfl) rfl) (loadTermK hs (kq.later hL) 0 (by decide)) rfl)
  · exact fun ac W hL he => stepOk_want rfl (op_fieldAddr rfl (he.keep (.tmp 1) (by kernel_rfl)) fieldCT rfl)
  · exact fun ac W hL he => stepOk_want rfl (op_fieldAddr rfl (he.get 24 27 (by kernel_rfl) rfl) fieldT6 rfl)
  · exact fun ac W hL he => stepOk_want rfl (op_idx rfl (he.get 25 28 (by kernel_rfl) rfl) rfl idxK1 rfl)
  · exact fun ac W hL he => stepOk_want rfl (op_load rfl (he.get 26 29 (by kernel_rfl) rfl) (loadTermK hs (kq.later hL) 1 (by decide)) rfl)
  · exact fun ac W hL he => stepOk_want rfl (op_binOp rfl (he.get 23 26 (by kernel_rfl) rfl) (he.get 27 30 (by kernel_rfl) rfl) (by kernel_rfl) (neqHash s.key0 s.key1 K0.out K1.out W) rfl)
  · intro ac W hL he; refine stepOk_want rfl ?_; have e6 : ac.eval (.tmp 6) = .bool (inB s.tix 0 23) := he.get 3 6 (by kernel_rfl) rfl; have e10 : ac.eval (.tmp 10) = .bool (inB s.cap 1000 1125899906842624) := he.get 7 10 (by kernel_rfl) rfl; have e14 : ac.eval (.tmp 14) = .bool (inB s.dust 1 500) := he.get 11 14 (by kernel_rfl) rfl; have e18 : ac.eval (.tmp 18) = .bool (inB s.fee 0 400) := he.get 15 18 (by kernel_rfl) rfl; have e22 : ac.eval (.tmp 22) = .bool (inB s.delay 1 1000) := he.get 19 22 (by kernel_rfl) rfl; have e31 : ac.eval (.tmp 31) = .bool (kD s) := he.get 28 31 (by kernel_rfl) rfl; exact op_buildSlice (vs := #[(0, .bool (inB s.tix 0 23)), (1, .bool (inB s.cap 1000 1125899906842624)), (2, .bool (inB s.dust 1 500)), (3, .bool (inB s.fee 0 400)), (4, .bool (inB s.delay 1 1000)), (5, .bool (kD s))]) rfl (by simp only [List.map_toArray, List.map_cons, List.map_nil, e6, e10, e14, e18, e22, e31]) (build6 _ _ _ _ _ _ W) ((Later.refl W).alloc _) ⟨_, rfl, RdV.row (Row.new W _ _)⟩
  · intro ac W hL he; refine stepOk_want rfl ?_; obtain ⟨b, e32, hrd⟩ : ∃ b, ac.eval (.tmp 32) = .slice (some ⟨b, 0, none⟩) 6 6 ∧ RdV W (some ⟨b, 0, none⟩) ([inB s.tix 0 23, inB s.cap 1000 1125899906842624, inB s.dust 1 500, inB s.fee 0 400, inB s.delay 1 1000, kD s].map Value.bool) := he.get 29 32 (by kernel_rfl) rfl; exact op_callF (vs := #[.slice (some ⟨b, 0, none⟩) 6 6]) rfl (by simp only [List.map_toArray, List.map_cons, List.map_nil, e32]) (enters_of Tryz.func143 (by kernel_rfl) rfl) ((ball_any _ 6 6 _ W rfl (by decide) hrd).mono fun e W' ⟨hw', he'⟩ => ⟨_, he', hw' ▸ Later.refl _, rfl⟩)
  intro xs W hL hx hk hgt
  have e33 := hgt 30 33 (by decide) (by kernel_rfl)
  rw [show xs 30 = .bool (tmB s) from hx 30 (by decide)] at e33
  refine last_assign rfl e33 ?_
  clear hx hk hgt e33
  simp only [initL, lastL, putL, Nat.reduceAdd, Act.put, List.setIfInBounds_toArray, List.set_cons_succ, List.set_cons_zero]
  have HL := Lib.hid (Later.step hb hL)
  go_wp2_with fail
  go_ret
  exact ⟨rfl, HL.out⟩
end Go.Proofs.YtcajhdmppfiaeaaGreat
namespace Go.Proofs.YtcajhdmppfiaeaaGreat
open Go.RowKit Ms
set_option maxRecDepth 100000 in
theorem cterms_any (s : Said) (hs : s.wf) (w : World) : Calls Tryz.prog 121 #[.agg (termsC s)] w fun e w' => e = .returned (.int .i64 (if tmB s then 0 else 2)) ∧ Later w w' := by
  have kq := Row.new w 27 (termsC s)
  have hb := below_new w (.cells (termsC s) 27)
  have hbx := boxTerms hs w
  obtain ⟨b, hbb⟩ : ∃ b, tmB s = b := ⟨_, rfl⟩
  rw [hbb]
  have HB := Lib.hid hb
  have HBB := Lib.hid hbb
  have HLD := Lib.hid (loadTerms hs kq)
  clear hb hbb kq
  cases b
  all_goals
    go_enter Tryz.func121, Tryz.ntmps121
    go_upto_region 1 with fail
    obtain ⟨q, hq⟩ : ∃ q, q = w.heap.size := ⟨_, rfl⟩
    rw [← hq] at HLD ⊢
    clear hbx hq
    generalize w.alloc (.cells (termsC s) 27) = w1 at *
    have hld := HLD.out
    clear HLD
    have hcr := cright_any s hs w1
    rw [HBB.out] at hcr
    go_wp2_with (first
      | (guard_target =~ wpList _ _ _ (_ :: _) _ _; refine wpList_load rfl 27 (.tmp 1) rfl (.pointer (some ⟨q, 0, none⟩)) rfl hld ?_)
      | (guard_target =~ wpList _ _ _ (_ :: _) _ _; refine wpList_build rfl 183 _ rfl #[(0, .agg (termsC s))] (by simp only [List.map_toArray, List.map_cons, List.map_nil]; rfl) (buildCTerms hs _) ?_)
      | (go_at_call 139; refine hcr.mono ?_; clear hcr; rintro e w2 ⟨rfl, hL⟩)
      | fail)
    go_ret
    exact ⟨rfl, HB.out.trans (hL.below.mono HB.out.size)⟩
def bump : List UInt8 → List UInt8
  | [] => []
  | x :: r => (x + 1) :: r
theorem bump_len (h : List UInt8) : (bump h).length = h.length := by cases h <;> rfl
theorem bump_ne (h : List UInt8) (hn : h ≠ []) : bump h ≠ h := by
  cases h with
  | nil => exact absurd rfl hn
  | cons x r =>
    intro e
    injection e with e _
    have h1 := congrArg UInt8.toNat e
    rw [UInt8.toNat_add] at h1
    have h2 := x.toNat_lt
    have h3 : (1 : UInt8).toNat = 1 := rfl
    omega
theorem termsC_put {s s' : Said} (h : s.wf) (h' : s'.wf) (vs : List Value) (o : Nat) (ho : o + vs.length ≤ 101) (e : setFrom (saidC s) (1 + o) vs = saidC s') : setFrom (termsC s) o vs = termsC s' := by
  apply Array.ext_getElem?
  intro i
  rw [setFrom_get _ _ _ _ (by rw [termsC_size h]; exact ho)]
  by_cases hi : i < 101
  · rw [termsC_get h' i hi, ← e, setFrom_get _ _ _ _ (by rw [saidC_size h]; omega), termsC_get h i hi]
    by_cases hc : o ≤ i ∧ i < o + vs.length
    · rw [if_pos hc, if_pos (by omega), show 1 + i - (1 + o) = i - o by omega]
    · rw [if_neg hc, if_neg (by omega)]
  · rw [if_neg (by omega), Array.getElem?_eq_none (by rw [termsC_size h]; omega), Array.getElem?_eq_none (by rw [termsC_size h']; omega)]
theorem said_key1 {s : Said} (h : s.wf) (x : UInt8) (r : List UInt8) (y : UInt8) (he : s.key1 = x :: r) : setFrom (saidC s) 70 [byteV y] = saidC (s.setH 2 (y :: r)) := by
  have hl := h 2 (by decide)
  have hl' : (x :: r).length = 32 := he ▸ hl
  have h1 := saidC_setH h 2 (by decide) (y :: r) (by simpa using hl')
  rw [← h1]
  apply Array.ext_getElem?
  intro i
  have hz := hC_size (y :: r) (by simp at hl' ⊢; omega)
  have hzl : (hC (y :: r)).toList.length = 32 := by rw [Array.length_toList, hz]
  have h1l : [byteV y].length = 1 := rfl
  rw [setFrom_get _ _ _ _ (by rw [saidC_size h, h1l]; decide), setFrom_get _ _ _ _ (by rw [saidC_size h, hzl]; decide), hzl, h1l]
  by_cases h0 : i = 70
  · subst h0
    rfl
  · rw [if_neg (by omega)]
    by_cases hc : offH 2 ≤ i ∧ i < offH 2 + 32
    · rw [if_pos hc]
      have h2 := saidC_h h 2 (by decide) (i - 70) (by have := hc.2; have : offH 2 = 70 := rfl; omega)
      have e70 : offH 2 = 70 := rfl
      rw [e70] at hc h2 ⊢
      rw [show 70 + (i - 70) = i by omega] at h2
      rw [h2, show s.h 2 = x :: r from he, Array.getElem?_toList, hC_full _ hl', hC_full _ (by simpa using hl')]
      obtain ⟨k, hk⟩ : ∃ k, i - 70 = k + 1 := ⟨i - 71, by omega⟩
      rw [hk]
      rfl
    · rw [if_neg hc]
theorem allocTerms (w : World) : (Instr.alloc 27 true (.tuple #[])).run Tryz.prog w = .ok (.pointer (some ⟨w.heap.size, 0, none⟩)) (w.alloc (.cells (termsC (Ms.blank 0)) 27)) := by kernel_rfl
theorem newTerms (w : World) {s : Said} (hs : s.wf) : ∃ w', (Instr.storeAt 27 (.pointer (some ⟨w.heap.size, 0, none⟩)) (.agg (termsC s))).run Tryz.prog (w.alloc (.cells (termsC (Ms.blank 0)) 27)) = .ok () w' ∧ Row w' w.heap.size 27 (termsC s) ∧ Later w w' := by
  have hz := termsC_size hs
  have hr := Row.new w 27 (termsC (Ms.blank 0))
  have hg := grown_setCells (g := w.heap.size) (termsC s).toList 0 (w.alloc (.cells (termsC (Ms.blank 0)) 27))
  refine ⟨_, run_store_row hr (termsC s) (by rw [hz]; exact infoTerms) (by rw [hz, termsC_size (blank_wf 0)]; decide) (termsC_one s), ?_, Below.grown ((Later.refl w).alloc _) hg (by simp only [World.size_alloc]; omega) (fun j e => by cases e; exact Nat.le_refl _)⟩
  have hr2 := row_setCells (termsC s).toList 0 _ _ hr
  rwa [setFrom_whole _ _ (by rw [Array.length_toList, hz, termsC_size (blank_wf 0)]), Array.toArray_toList] at hr2
theorem loadSaidT {w : World} {g : Nat} {s : Said} (h : s.wf) (hr : Row w g 29 (saidC s)) : (Instr.loadAt 27 (.pointer (some ⟨g, 1, none⟩))).run Tryz.prog w = .ok (.agg (termsC s)) w :=
  run_load_part hr (fun i hi => (termsC_get h i (by rw [termsC_size h] at hi; exact hi)).symm) Tryz.underlying27 rfl (by rw [termsC_size h]; exact infoTerms)
end Go.Proofs.YtcajhdmppfiaeaaGreat
namespace Go.Proofs.YtcajhdmppfiaeaaGreat
open Go.RowKit Ms
theorem storeTermK {w : World} {q : Nat} {s : Said} (hs : s.wf) (hr : Row w q 27 (termsC s)) (v : List UInt8) (hv : v.length = 32) : ∃ w', (Instr.storeAt 24 (.pointer (some ⟨q, 69, none⟩)) (.agg (hC v))).run Tryz.prog w = .ok () w' ∧ Row w' q 27 (termsC (s.setH 2 v)) ∧ w.grownBy w' (some q) := by
  have hz := hC_size v (Nat.le_of_eq hv)
  refine ⟨_, run_store_row hr (hC v) (by rw [hz]; exact infoH) (by rw [hz, termsC_size hs]; decide) (hC_one v), ?_, grown_setCells _ _ _⟩
  have h2 := row_setCells (hC v).toList 69 w _ hr
  have hl : (hC v).toList.length = 32 := by rw [Array.length_toList, hz]
  rwa [termsC_put hs (Said.setH_wf hs 2 v hv) (hC v).toList 69 (by omega) (saidC_setH hs 2 (by decide) v hv)] at h2
def mopenB (s : Said) : Bool := termsB s && inB s.reserve 0 (s.cap / 10) && decide (s.amount ≤ s.cap - s.fee - s.reserve)
theorem tmB_bump {s : Said} (hs : s.wf) : tmB (s.setH 2 (bump s.key0)) = termsB s := by
  have h0 : s.key0.length = 32 := hs 1 (by decide)
  have hk : kD (s.setH 2 (bump s.key0)) = true := by
    have := bump_ne s.key0 (by intro e; rw [e] at h0; cases h0)
    show (!(s.key0 == bump s.key0)) = true
    simp
    exact fun e => this e.symm
  unfold tmB termsB inB
  rw [hk]
  simp only [Said.setH, Bool.and_true, Bool.and_assoc]
set_option maxRecDepth 100000 in
set_option maxHeartbeats 1000000 in
theorem mopen_any (s : Said) (hs : s.wf) (w : World) : Calls Tryz.prog 76 #[.agg (saidC s)] w fun e w' => e = .returned (.bool (mopenB s)) ∧ Later w w' := by
  have k1 := Row.new w 29 (saidC s)
  have hb := below_new w (.cells (saidC s) 29)
  have hbx := boxSaid hs w
  obtain ⟨b0, h00⟩ : ∃ b, mopenB s = b := ⟨_, rfl⟩
  rw [h00]
  have HOP := Lib.hid h00
  clear h00
  go_enter Tryz.func76, Tryz.ntmps76
  go_upto_region 1 with fail
  obtain ⟨g, hg⟩ : ∃ q, q = w.heap.size := ⟨_, rfl⟩
  rw [← hg] at k1 ⊢
  clear hbx hg
  generalize w.alloc (.cells (saidC s) 29) = w1 at *
  have hld := loadSaidT hs k1
  obtain ⟨w2, hst, kq, hL2⟩ := newTerms w1 hs
  have k2 := k1.later hL2
  have hb2 := Later.step hb hL2
  go_upto_region 2 with (first
    | (guard_target =~ wpList _ _ _ (_ :: _) _ _; refine wpList_load rfl 27 (.tmp 4) rfl (.pointer (some ⟨g, 1, none⟩)) rfl hld ?_)
    | (with_reducible refine wpList_alloc rfl 27 rfl (allocTerms _) ?_)
    | (guard_target =~ wpList _ _ _ (_ :: _) _ _; refine wpList_store rfl 27 (.tmp 3) (.tmp 5) rfl (.pointer (some ⟨w1.heap.size, 0, none⟩)) (.agg (termsC s)) rfl rfl hst ?_)
    | fail)
  have hgq : g < w1.heap.size := k1.lt
  obtain ⟨q, hq⟩ : ∃ q, q = w1.heap.size := ⟨_, rfl⟩
  rw [← hq] at kq hgq ⊢
  have hqw : w.heap.size ≤ q := by rw [hq]; exact hb.size
  clear hst hld k1 hb hL2 hq
  have h0 : s.key0.length = 32 := hs 1 (by decide)
  have hld : (Instr.loadAt 24 (.pointer (some ⟨q, 37, none⟩))).run Tryz.prog w2 = .ok (.agg (hC s.key0)) w2 := loadTermK hs kq 0 (by decide)
  obtain ⟨w3, hst, kq3, hg3⟩ := storeTermK hs kq s.key0 h0
  have k3 := k2.grown hg3 (fun e => by injection e with e; omega)
  go_upto_region 3 with (first
    | (guard_target =~ wpList _ _ _ (_ :: _) _ _; refine wpList_load rfl 24 (.tmp 7) rfl (.pointer (some ⟨q, 37, none⟩)) rfl hld ?_)
    | (guard_target =~ wpList _ _ _ (_ :: _) _ _; refine wpList_store rfl 24 (.tmp 10) (.tmp 8) rfl (.pointer (some ⟨q, 69, none⟩)) (.agg (hC s.key0)) rfl rfl hst ?_)
    | fail)
  clear hst hld kq k2
  obtain ⟨x, r, hxr⟩ : ∃ x r, s.key0 = x :: r := by
    cases h : s.key0 with
    | nil => rw [h] at h0; cases h0
    | cons x r => exact ⟨x, r, rfl⟩
  rw [hxr] at kq3
  have hxl : (x :: r).length = 32 := hxr ▸ h0
  have hs3 : (s.setH 2 (x :: r)).wf := Said.setH_wf hs 2 _ hxl
  have c69 : w3.cell? ⟨q, 69, none⟩ = some (.int .u8 (x.toNat : Int)) := (kq3.cell 69).trans (by
    have := termsC_key hs3 1 (by decide) 0 (by decide)
    exact this.trans (by rw [show (s.setH 2 (x :: r)).h (1 + 1) = x :: r from rfl, hC_full _ hxl]; rfl))
  have f69 : w3.frozen? ⟨q, 69, none⟩ = false := kq3.frozen 69
  have k4 := kq3.set 69 (byteV (x + 1))
  rw [show (termsC (s.setH 2 (x :: r))).setIfInBounds 69 (byteV (x + 1)) = termsC (s.setH 2 (bump s.key0)) from by
    rw [hxr]
    exact termsC_put (s' := (s.setH 2 (bump (x :: r)))) hs3 (Said.setH_wf hs 2 _ (by rw [bump_len]; exact hxl)) [byteV (x + 1)] 69 (Nat.le_of_ble_eq_true rfl) (said_key1 hs3 x r (x + 1) rfl)] at k4
  have K4 := Lib.hid k4
  clear k4
  have hg4 := grown_set w3 q 69 (byteV (x + 1))
  have k4 := k3.grown hg4 (fun e => by injection e with e; omega)
  have hb4 : Below w.heap.size w (w3.setCell ⟨q, 69, none⟩ (byteV (x + 1))) := (Below.grown hb2.below hg3 hb2.size (fun j e => by cases e; exact hqw)).setCell hqw _
  have hby : Value.int .u8 (((x.toNat : Int) + 1) % 256) = byteV (x + 1) := by
    unfold byteV
    rw [UInt8.toNat_add]
    congr 1
  have HBY := Lib.hid hby
  clear hby hg4 hg3 hb2 k3 kq3
  have HB4 := Lib.hid hb4
  clear hb4
  go_upto_region 4 with fail
  rw [HBY.out]
  clear c69 f69 HBY
  generalize w3.setCell ⟨q, 69, none⟩ (byteV (x + 1)) = w4 at *
  have hs4 : (s.setH 2 (bump s.key0)).wf := Said.setH_wf hs 2 _ (by rw [bump_len]; exact h0)
  have hld := loadTerms hs4 K4.out
  have hct := cterms_any _ hs4 w4
  rw [tmB_bump hs] at hct
  have hcells : ∀ W, Later w4 W → ∀ j, j < 12 → W.cell? ⟨g, offN j, none⟩ = some (.int .i64 (s.n j)) := fun W hL j hj => ((k4.later hL).cell _).trans (saidC_n hs j hj)
  have hcellt : ∀ W, Later w4 W → ∀ j, j < 5 → W.cell? ⟨q, 32 + j, none⟩ = some (.int .i64 (s.n j)) := fun W hL j hj => ((K4.out.later hL).cell _).trans (termsC_n hs4 j hj)
  have HC := Lib.hid hcells
  have HT := Lib.hid hcellt
  clear hcells hcellt k4 hxr hxl hs3
  have K5 := K4.out
  clear K4
  generalize s.setH 2 (bump s.key0) = s' at *
  obtain ⟨b1, hb1⟩ : ∃ b, termsB s = b := ⟨_, rfl⟩
  have hop : b0 = (b1 && inB s.reserve 0 (s.cap / 10) && decide (s.amount ≤ s.cap - s.fee - s.reserve)) := by rw [← HOP.out]; unfold mopenB; rw [hb1]
  rw [hb1] at hct
  cases b1
  · obtain rfl : b0 = false := by rw [hop]; rfl
    clear hb1 hop HOP
    refine wp_region_lit ?_
    refine wpList_load rfl 27 (.tmp 3) rfl (.pointer (some ⟨q, 0, none⟩)) rfl hld ?_
    go_wp2_with (first
      | (go_at_call 121; refine hct.mono ?_; clear hct; rintro e w5 ⟨rfl, hL5⟩)
      | fail)
    go_ret
    exact ⟨rfl, HB4.out.trans (hL5.below.mono HB4.out.size)⟩
  · simp only [Bool.true_and] at hop
    have hbd : 1000 ≤ s.cap ∧ s.cap ≤ 1125899906842624 ∧ 0 ≤ s.fee ∧ s.fee ≤ 400 := by
      unfold termsB at hb1
      simp only [Bool.and_eq_true, decide_eq_true_eq] at hb1
      obtain ⟨⟨⟨⟨⟨⟨⟨⟨⟨_, _⟩, h1⟩, h2⟩, _⟩, _⟩, h3⟩, h4⟩, _⟩, _⟩ := hb1
      exact ⟨h1, h2, h3, h4⟩
    obtain ⟨hc1, hc2, hf1, hf2⟩ := hbd
    clear hb1
    obtain ⟨b2, hb2⟩ : ∃ b, inB s.reserve 0 (s.cap / 10) = b := ⟨_, rfl⟩
    rw [hb2] at hop
    have hin := fun W => min_any s.reserve 0 (s.cap / 10) W
    rw [hb2] at hin
    have hrs : b2 = true → 0 ≤ s.reserve ∧ s.reserve ≤ s.cap / 10 := fun e => by
      rw [e] at hb2
      unfold inB at hb2
      simpa using hb2
    have HIN := Lib.hid hin
    clear hb2 hin
    cases b2
    · obtain rfl : b0 = false := by rw [hop]; rfl
      clear hrs hop HOP
      refine wp_region_lit ?_
      refine wpList_load rfl 27 (.tmp 3) rfl (.pointer (some ⟨q, 0, none⟩)) rfl hld ?_
      go_wp2_with (first
        | (go_at_call 121; refine hct.mono ?_; clear hct; rintro e w5 ⟨rfl, hL5⟩; have c102 : w5.cell? ⟨g, 102, none⟩ = some (.int .i64 s.reserve) := HC.out w5 hL5 5 (by decide); have c33 : w5.cell? ⟨q, 33, none⟩ = some (.int .i64 s.cap) := HT.out w5 hL5 1 (by decide))
        | (go_at_call 34; refine (HIN.out _).mono ?_; rintro e w6 ⟨rfl, rfl⟩)
        | fail)
      go_ret
      exact ⟨rfl, HB4.out.trans (hL5.below.mono HB4.out.size)⟩
    · simp only [Bool.true_and] at hop
      obtain ⟨hr1, hr2⟩ := hrs rfl
      clear hrs
      have HOP2 := Lib.hid hop
      clear hop HOP
      refine wp_region_lit ?_
      refine wpList_load rfl 27 (.tmp 3) rfl (.pointer (some ⟨q, 0, none⟩)) rfl hld ?_
      go_wp2_with (first
        | (go_at_call 121; refine hct.mono ?_; clear hct; rintro e w5 ⟨rfl, hL5⟩; have c102 : w5.cell? ⟨g, 102, none⟩ = some (.int .i64 s.reserve) := HC.out w5 hL5 5 (by decide); have c33 : w5.cell? ⟨q, 33, none⟩ = some (.int .i64 s.cap) := HT.out w5 hL5 1 (by decide); have c103 : w5.cell? ⟨g, 103, none⟩ = some (.int .i64 s.amount) := HC.out w5 hL5 6 (by decide); have c35 : w5.cell? ⟨q, 35, none⟩ = some (.int .i64 s.fee) := HT.out w5 hL5 3 (by decide))
        | (go_at_call 34; refine (HIN.out _).mono ?_; rintro e w6 ⟨rfl, rfl⟩)
        | fail)
      go_ret
      exact ⟨by rw [HOP2.out]; rfl, HB4.out.trans (hL5.below.mono HB4.out.size)⟩
end Go.Proofs.YtcajhdmppfiaeaaGreat
namespace Go.Proofs.YtcajhdmppfiaeaaGreat
open Go.RowKit Ms
theorem rAny_any (s : Said) (hs : s.wf) (w : World) : Calls Tryz.prog 73 #[.agg (saidC s)] w fun e w' => e = .returned (.bool true) ∧ Later w w' := by
  have hb := below_new w (.cells (saidC s) 29)
  have hbx := boxSaid hs w
  go_enter Tryz.func73, Tryz.ntmps73
  go_wp2
  go_ret
  exact ⟨rfl, hb⟩
theorem rCoded_any (s : Said) (hs : s.wf) (w : World) : Calls Tryz.prog 74 #[.agg (saidC s)] w fun e w' => e = .returned (.bool (inB s.code 1 999)) ∧ Later w w' := by
  have k1 := Row.new w 29 (saidC s)
  have hb := below_new w (.cells (saidC s) 29)
  have hbx := boxSaid hs w
  have hin := fun W => min_any s.code 1 999 W
  have HIN := Lib.hid hin
  clear hin
  go_enter Tryz.func74, Tryz.ntmps74
  go_upto_region 1 with fail
  obtain ⟨g, hg⟩ : ∃ q, q = w.heap.size := ⟨_, rfl⟩
  rw [← hg] at k1 ⊢
  clear hbx hg
  generalize w.alloc (.cells (saidC s) 29) = w1 at *
  have c1 : w1.cell? ⟨g, 300, none⟩ = some (.int .i64 s.code) := (k1.cell _).trans (saidC_n hs 11 (by decide))
  go_wp2_with (first
    | (go_at_call 34; refine (HIN.out _).mono ?_; rintro e w6 ⟨rfl, rfl⟩)
    | fail)
  go_ret
  exact ⟨rfl, hb⟩
theorem rFund_any (s : Said) (hs : s.wf) (w : World) : Calls Tryz.prog 84 #[.agg (saidC s)] w fun e w' => e = .returned (.bool (decide (s.index < 24))) ∧ Later w w' := by
  have k1 := Row.new w 29 (saidC s)
  have hb := below_new w (.cells (saidC s) 29)
  have hbx := boxSaid hs w
  go_enter Tryz.func84, Tryz.ntmps84
  go_upto_region 1 with fail
  obtain ⟨g, hg⟩ : ∃ q, q = w.heap.size := ⟨_, rfl⟩
  rw [← hg] at k1 ⊢
  clear hbx hg
  generalize w.alloc (.cells (saidC s) 29) = w1 at *
  have c1 : w1.cell? ⟨g, 298, none⟩ = some (.int .i64 s.index) := (k1.cell _).trans (saidC_n hs 9 (by decide))
  go_wp2_with fail
  go_ret
  exact ⟨rfl, hb⟩
def addB (s : Said) : Bool := decide (0 < s.amount) && decide (0 < s.expiry) && decide (s.route.length ≤ 512)
theorem rAdd_any (s : Said) (hs : s.wf) (hm : s.route.length ≤ 9223372036854775807) (w : World) : Calls Tryz.prog 85 #[.agg (saidC s)] w fun e w' => e = .returned (.bool (addB s)) ∧ Later w w' := by
  have k1 := Row.new w 29 (saidC s)
  have hb := below_new w (.cells (saidC s) 29)
  have hbx := boxSaid hs w
  unfold addB
  obtain ⟨b1, h1⟩ : ∃ b, decide (0 < s.amount) = b := ⟨_, rfl⟩
  obtain ⟨b2, h2⟩ : ∃ b, decide (0 < s.expiry) = b := ⟨_, rfl⟩
  obtain ⟨b3, h3⟩ : ∃ b, decide (s.route.length ≤ 512) = b := ⟨_, rfl⟩
  rw [h1, h2, h3]
  have h3' : decide ((s.route.length : Int) ≤ 512) = b3 := by rw [← h3]; exact decide_eq_decide.2 (by omega)
  go_enter Tryz.func85, Tryz.ntmps85
  go_upto_region 1 with fail
  obtain ⟨g, hg⟩ : ∃ q, q = w.heap.size := ⟨_, rfl⟩
  rw [← hg] at k1 ⊢
  clear hbx hg
  generalize w.alloc (.cells (saidC s) 29) = w1 at *
  have c1 : w1.cell? ⟨g, 103, none⟩ = some (.int .i64 s.amount) := (k1.cell _).trans (saidC_n hs 6 (by decide))
  have c2 : w1.cell? ⟨g, 299, none⟩ = some (.int .i64 s.expiry) := (k1.cell _).trans (saidC_n hs 10 (by decide))
  have c3 : w1.cell? ⟨g, 301, none⟩ = some (.string ⟨s.route.toArray⟩) := (k1.cell _).trans (saidC_route hs)
  have hsz : (⟨s.route.toArray⟩ : ByteArray).size = s.route.length := by simp [ByteArray.size]
  cases b1
  · go_wp2_with fail
    go_ret
    exact ⟨rfl, hb⟩
  · cases b2
    · go_wp2_with fail
      go_ret
      exact ⟨rfl, hb⟩
    · go_wp2_with fail
      go_ret
      exact ⟨rfl, hb⟩
def specialK (k : Int) (s : Said) : Bool :=
  if k = 1 then mopenB s else if k = 3 then decide (s.index < 24) else if k = 6 then addB s else if k = 8 ∨ k = 14 then inB s.code 1 999 else true
theorem special_eq (s : Said) : special s = specialK s.kind s := by
  unfold special specialK mopenB addB inB
  rfl
theorem kRight_any (k : Int) (s : Said) (hs : s.wf) (hm : s.route.length ≤ 9223372036854775807) (w : World) : Calls Tryz.prog (kRight k) #[.agg (saidC s)] w fun e w' => e = .returned (.bool (specialK k s)) ∧ Later w w' := by
  by_cases h1 : k = 1
  · subst h1; exact mopen_any s hs w
  by_cases h2 : k = 2
  · subst h2; exact rAny_any s hs w
  by_cases h3 : k = 3
  · subst h3; exact rFund_any s hs w
  by_cases h4 : k = 4
  · subst h4; exact rAny_any s hs w
  by_cases h5 : k = 5
  · subst h5; exact rAny_any s hs w
  by_cases h6 : k = 6
  · subst h6; exact rAdd_any s hs hm w
  by_cases h7 : k = 7
  · subst h7; exact rAny_any s hs w
  by_cases h8 : k = 8
  · subst h8; exact rCoded_any s hs w
  by_cases h14 : k = 14
  · subst h14; exact rCoded_any s hs w
  have e1 : kRight k = 73 := by
    unfold kRight
    simp [h1, h2, h3, h4, h5, h6, h7, h8, h14]
  have e2 : specialK k s = true := by
    unfold specialK
    simp [h1, h2, h3, h4, h5, h6, h7, h8, h14]
  rw [e1, e2]
  exact rAny_any s hs w
def Ent (F : FuncId) : Prop := ∀ (args : Array Value) (w : World), (callFunc F args).run Tryz.prog w = .ok (.enter F args) w
theorem kRight_ent (k : Int) : Ent (kRight k) := by
  have e0 : Ent 73 := enters_of Tryz.func73 (by kernel_rfl) rfl
  by_cases h1 : k = 1
  · subst h1; exact enters_of Tryz.func76 (by kernel_rfl) rfl
  by_cases h3 : k = 3
  · subst h3; exact enters_of Tryz.func84 (by kernel_rfl) rfl
  by_cases h6 : k = 6
  · subst h6; exact enters_of Tryz.func85 (by kernel_rfl) rfl
  by_cases h8 : k = 8
  · subst h8; exact enters_of Tryz.func74 (by kernel_rfl) rfl
  by_cases h14 : k = 14
  · subst h14; exact enters_of Tryz.func74 (by kernel_rfl) rfl
  have e1 : kRight k = 73 := by
    unfold kRight
    simp [h1, h3, h6, h8, h14]
  rw [e1]
  exact e0
theorem kRight_enters (k : Int) (args : Array Value) (w : World) : (callFunc (kRight k) args).run Tryz.prog w = .ok (.enter (kRight k) args) w := kRight_ent k args w
end Go.Proofs.YtcajhdmppfiaeaaGreat
namespace Go.Proofs.YtcajhdmppfiaeaaGreat
open Go.RowKit Ms
set_option maxRecDepth 100000 in
theorem indexF_any (F : FuncId) (caps : Array Value) (p : Int → Bool) (A : Option Addr) (n c : Nat) (l : List Int) (w : World) (hn : l.length = n) (hm : n ≤ 1000000000) (hr : RdV w A (l.map numV)) (hE : Ent F) (hF : ∀ z, Calls Tryz.prog F (#[.int .i64 z] ++ caps) w fun e w' => w' = w ∧ e = .returned (.bool (p z))) :
    Calls Tryz.prog 90 #[.slice A n c, .func (.func F) #[] caps] w fun e w' => w' = w ∧ ∃ k : Int, e = .returned (.int .i64 k) ∧ decide (0 ≤ k) = l.any p := by
  have HN := Lib.hid hn
  have HF := Lib.hid hF
  have HE := Lib.hid hE
  clear hn hF hE
  go_enter Tryz.func90, Tryz.ntmps90
  go_wp2_with fail
  go_loopw [8] (fun t wr => wr = w ∧ ∃ i : Nat, i ≤ n ∧ t = .int .i64 (i : Int) ∧ (l.take i).any p = false) (fun t _ => n - (intOf t).toNat)
  case atStart => exact ⟨rfl, 0, by omega, rfl, rfl⟩
  case round =>
    obtain ⟨rfl, i, hi, rfl, hany⟩ := hrel
    by_cases hlt : i < n
    · have hd : decide ((i : Int) < (n : Int)) = true := decide_eq_true (by omega)
      have hd' : decide (i < n) = true := decide_eq_true hlt
      have hil : i < l.length := by rw [HN.out]; exact hlt
      obtain ⟨b, o, rfl, hc⟩ := hr.at_ (k := i) (by simpa using hil)
      rw [List.getElem_map] at hc
      have hnx : l.take (i + 1) = l.take i ++ [l[i]] := List.take_succ_eq_append_getElem hil
      have hsp : l = l.take i ++ (l[i] :: l.drop (i + 1)) := by simp
      generalize hx : l[i] = x at *
      have HNX := Lib.hid hnx
      have HSP := Lib.hid hsp
      clear hnx hsp hr hx
      have hcall := HF.out x
      obtain ⟨b0, hb0⟩ : ∃ b, p x = b := ⟨_, rfl⟩
      rw [hb0] at hcall
      have HB := Lib.hid hb0
      clear hb0
      have HCALL := Lib.hid hcall
      clear hcall
      cases b0
      all_goals
        go_wp2_with (first
          | (guard_target =~ wpList _ _ _ (_ :: _) _ _; refine wpList_callV rfl (.tmp 11) #[.tmp 15] _ rfl (f := F) (bound := caps) (vs := #[.int .i64 x]) rfl (by simp only [List.map_toArray, List.map_cons, List.map_nil]; rfl) HE.out rfl ?_; refine HCALL.out.mono ?_; rintro e w2 ⟨rfl, rfl⟩; refine .inl ⟨_, rfl, ?_⟩)
          | fail)
      · go_roundw
        case rel => exact ⟨trivial, i + 1, by omega, by go_num, by rw [HNX.out, List.any_append, hany]; simp [HB.out]⟩
        case measure => simp [intOf]; omega
      · go_ret
        refine ⟨rfl, _, rfl, ?_⟩
        rw [HSP.out]
        simp [HB.out]
    · obtain rfl : i = n := by omega
      have hd : decide ((i : Int) < (i : Int)) = false := decide_eq_false (by omega)
      rw [List.take_of_length_le (by rw [HN.out]; exact Nat.le_refl _)] at hany
      go_wp2_with fail
      go_ret
      exact ⟨rfl, _, rfl, by rw [hany]; rfl⟩
theorem containsF_any (F : FuncId) (caps : Array Value) (p : Int → Bool) (A : Option Addr) (n c : Nat) (l : List Int) (w : World) (hn : l.length = n) (hm : n ≤ 1000000000) (hr : RdV w A (l.map numV)) (hE : Ent F) (hF : ∀ z, Calls Tryz.prog F (#[.int .i64 z] ++ caps) w fun e w' => w' = w ∧ e = .returned (.bool (p z))) :
    Calls Tryz.prog 32 #[.slice A n c, .func (.func F) #[] caps] w fun e w' => w' = w ∧ e = .returned (.bool (l.any p)) := by
  have hi := indexF_any F caps p A n c l w hn hm hr hE hF
  clear hF
  go_enter Tryz.func32, Tryz.ntmps32
  go_wp2_with (first
    | (go_at_call 90; refine hi.mono ?_; clear hi; rintro e w2 ⟨rfl, k, rfl, hk⟩)
    | fail)
  go_ret
  exact ⟨rfl, by rw [← hk]; rfl⟩
theorem wideFn_any (z : Int) (w : World) : Calls Tryz.prog 33 #[.int .i64 z] w fun e w' => w' = w ∧ e = .returned (.bool (!within z)) := by
  have hin := min_any z 0 2147483647 w
  have hw : inB z 0 2147483647 = within z := rfl
  rw [hw] at hin
  generalize within z = b at *
  clear hw
  go_enter Tryz.func33, Tryz.ntmps33
  go_wp2_with (first
    | (go_at_call 34; refine hin.mono ?_; clear hin; rintro e w6 ⟨rfl, rfl⟩)
    | fail)
  go_ret
  exact ⟨rfl, rfl⟩
theorem moneyFn_any (z m : Int) (q : Nat) (w : World) (hq : Row w q 2 #[.int .i64 m]) : Calls Tryz.prog 127 #[.int .i64 z, .pointer (some ⟨q, 0, none⟩)] w fun e w' => w' = w ∧ e = .returned (.bool (decide (z < 0) || decide (m < z))) := by
  have c1 : w.cell? ⟨q, 0, none⟩ = some (.int .i64 m) := (hq.cell 0).trans rfl
  by_cases h : z < 0
  · have hd : decide (z < 0) = true := decide_eq_true h
    rw [hd]
    go_enter Tryz.func127, Tryz.ntmps127
    go_wp2
    go_ret
    exact ⟨rfl, rfl⟩
  · have hd : decide (z < 0) = false := decide_eq_false h
    rw [hd, Bool.false_or]
    obtain ⟨b, hb⟩ : ∃ b, decide (m < z) = b := ⟨_, rfl⟩
    rw [hb]
    go_enter Tryz.func127, Tryz.ntmps127
    go_wp2
    go_ret
    exact ⟨rfl, rfl⟩
set_option maxRecDepth 100000 in
theorem moneyIn_any (A : Option Addr) (n c : Nat) (l : List Int) (m : Int) (w : World) (hn : l.length = n) (hm : n ≤ 1000000000) (hr : RdV w A (l.map numV)) : Calls Tryz.prog 91 #[.int .i64 m, .slice A n c] w fun e w' => e = .returned (.bool (!l.any fun z => decide (z < 0) || decide (m < z))) ∧ Later w w' := by
  have k1 := Row.new w 2 #[.int .i64 m]
  have hb := below_new w (.cells #[.int .i64 m] 2)
  have hmf : ∀ (fn : Fn) (first cap : Array Value) (w : World), (Instr.makeFunc fn first cap).run Tryz.prog w = .ok (.func fn first cap) w := fun _ _ _ _ => rfl
  have hct := containsF_any 127 #[.pointer (some ⟨w.heap.size, 0, none⟩)] (fun z => decide (z < 0) || decide (m < z)) A n c l _ hn hm (hr.later hb) (enters_of Tryz.func127 (by kernel_rfl) rfl) (fun z => moneyFn_any z m _ _ k1)
  generalize (l.any fun z => decide (z < 0) || decide (m < z)) = b at *
  have HCT := Lib.hid hct
  have HB := Lib.hid hb
  clear hct k1 hr hb
  go_enter Tryz.func91, Tryz.ntmps91
  go_wp2_with (first
    | (go_at_call 32; refine HCT.out.mono ?_; rintro e w6 ⟨rfl, rfl⟩)
    | fail)
  go_ret
  exact ⟨rfl, HB.out⟩
theorem moneyCheck_any (A : Option Addr) (c : Nat) (z : Int) (w : World) (hr : RdV w A [numV z]) : Calls Tryz.prog 35 #[.slice A 1 c] w fun e w' => e = .returned (.int .i64 (if amt z then 0 else 2)) ∧ Later w w' := by
  have hin := moneyIn_any A 1 c [z] 1125899906842624 w rfl (by decide) hr
  have hw : (!([z].any fun z => decide (z < 0) || decide (1125899906842624 < z))) = amt z := by
    unfold amt
    simp only [List.any_cons, List.any_nil, Bool.or_false, Bool.not_or, ← decide_not]
    congr 1 <;> exact decide_eq_decide.2 (by omega)
  rw [hw] at hin
  generalize amt z = b at *
  have HIN := Lib.hid hin
  clear hw hin hr
  cases b
  all_goals
    go_enter Tryz.func35, Tryz.ntmps35
    go_wp2_with (first
      | (go_at_call 91; refine HIN.out.mono ?_; rintro e w6 ⟨rfl, hL⟩)
      | fail)
    go_ret
    exact ⟨rfl, hL⟩
end Go.Proofs.YtcajhdmppfiaeaaGreat
namespace Go.Proofs.YtcajhdmppfiaeaaGreat
open Go.RowKit Ms
section
variable {P : Program} {w : World} {ops : Array Oper} {rest : List Oper} {o : Oper} {a : Act} {Q : Exit → Act → World → Prop}
theorem wpList_on (hw : Region.wanted o (yielded ops a.tmps) = true) (h : ∀ K : Act → World → Prop, (∀ a w, wpList P ops Q rest a w → K a w) → o.wp P a w K Q) : wpList P ops Q (o :: rest) a w :=
  wpList_step fun K hK => by
    rw [if_pos hw]
    exact h K hK
theorem wpList_loadG (hw : Region.wanted o (yielded ops a.tmps) = true) (T : TypeId) (x : Operand) (ho : o.op = .load T x) (vx : Value) (hx : a.eval x = vx) {v : Value} {w' : World} (hr : (Instr.loadAt T vx).run P w = .ok v w')
    (h : wpList P ops Q rest (a.put o.dst v) w') : wpList P ops Q (o :: rest) a w :=
  wpList_on hw fun _ hK => by
    unfold Oper.wp execOp
    simp only [ho, Sem.run_bind, Sem.run_pure, Result.andThen_ok, hx, hr]
    exact hK _ _ h
theorem wpList_buildG (hw : Region.wanted o (yielded ops a.tmps) = true) (T : TypeId) (parts : Array (Nat × Operand)) (ho : o.op = .build T parts) (vs : Array (Nat × Value)) (hp : (parts.map fun (i, x) => (i, a.eval x)) = vs)
    {v : Value} {w' : World} (hr : (Instr.build T vs).run P w = .ok v w')
    (h : wpList P ops Q rest (a.put o.dst v) w') : wpList P ops Q (o :: rest) a w :=
  wpList_on hw fun _ hK => by
    unfold Oper.wp execOp
    simp only [ho, Sem.run_bind, Sem.run_pure, Result.andThen_ok, hp, hr]
    exact hK _ _ h
theorem wpList_binG (hw : Region.wanted o (yielded ops a.tmps) = true) (b : BinOp) (T T2 : TypeId) (x y : Operand) (ho : o.op = .binOp b T x y T2) (vx vy : Value) (hx : a.eval x = vx) (hy : a.eval y = vy) (hg : (eqGuard b T x y vx vy).run P w = .ok () w)
    {v : Value} {w' : World} (hr : (binOp b T vx vy).run P w = .ok v w')
    (h : wpList P ops Q rest (a.put o.dst v) w') : wpList P ops Q (o :: rest) a w :=
  wpList_on hw fun _ hK => by
    unfold Oper.wp execOp
    simp only [ho, Sem.run_bind, Sem.run_pure, Result.andThen_ok, hx, hy, hg, hr]
    exact hK _ _ h
theorem wpList_callVG (hw : Region.wanted o (yielded ops a.tmps) = true) {f : FuncId} {bound all : Array Value} (x : Operand) (xs : Array Operand) (ts : Array TypeId) {vs : Array Value} (ho : o.op = .call { callee := .value x, args := xs, argTypes := ts }) (hf : a.eval x = .func (.func f) #[] bound) (hv : xs.map a.eval = vs) (eg : ∀ args w, (callFunc f args).run P w = .ok (.enter f args) w) (hall : vs ++ bound = all)
    (h : Calls P f all w fun e w' => ∃ v, e = .returned v ∧ wpList P ops Q rest (a.put o.dst v) w') : wpList P ops Q (o :: rest) a w := by
  subst hall
  refine wpList_on hw fun K hK => ?_
  have hr : ((do let d ← resolve a.eval { callee := .value x, args := xs, argTypes := ts } o.type; invoke d.target d.args) : Sem Next).run P w = .ok (.enter f (vs ++ bound)) w := by
    simp only [resolve, hf, hv]
    simp [invoke, go_sem, eg]
  unfold Oper.wp execOp
  simp only [ho]
  rw [hr]
  exact h.mono fun e W' ⟨v, he, hq⟩ => by subst he; exact hK _ _ hq
theorem op_lookup {W : World} {R : Value → World → Prop} {t : TypeId} {x y : Operand} {ok : Bool} {vx vy v : Value} (ho : o.op = .lookup t x y ok) (hx : a.eval x = vx) (hy : a.eval y = vy) (hr : (Instr.lookup t vx vy ok).run P W = .ok v W) (h : R v W) : o.wp P a W (fun a' W' => ∃ v, a' = a.put o.dst v ∧ Later W W' ∧ R v W') Q := by
  refine op_value (v := v) (W' := W) ?_ (Later.refl _) h
  unfold execOp
  simp only [ho, hx, hy, hr, Sem.run_bind, Sem.run_pure, Result.andThen_ok]
theorem op_field {W : World} {R : Value → World → Prop} {t : TypeId} {x : Operand} {i : Nat} {vx v : Value} (ho : o.op = .field t x i) (hx : a.eval x = vx) (hr : (Instr.field t vx i).run P W = .ok v W) (h : R v W) : o.wp P a W (fun a' W' => ∃ v, a' = a.put o.dst v ∧ Later W W' ∧ R v W') Q := by
  refine op_value (v := v) (W' := W) ?_ (Later.refl _) h
  unfold execOp
  simp only [ho, hx, hr, Sem.run_bind, Sem.run_pure, Result.andThen_ok]
end
theorem KindsAt.later {W W' : World} {m : Nat} (h : KindsAt W m) (k : Later W W') : KindsAt W' m := by
  obtain ⟨φ, h1, h2, h3⟩ := h
  exact ⟨φ, h1.later k, fun i v hv => ⟨(h2 i v hv).1, (h2 i v hv).2.m k.m⟩, h3⟩
def kindV (k : Int) (A : Option Addr) : Value := .agg #[.string (kName k), if isKind k then .func (.func (kRight k)) #[] #[] else .nilFunc, .slice A (flds k).length (flds k).length]
theorem no_kind {k : Int} (h : isKind k = false) : kName k = ⟨#[]⟩ ∧ flds k = [] := by
  have hk : ∀ j : Int, 1 ≤ j → j ≤ 14 → k ≠ j := fun j h1 h2 e => by
    subst e
    unfold isKind at h
    simp at h
    omega
  have h1 := hk 1 (by decide) (by decide)
  have h2 := hk 2 (by decide) (by decide)
  have h3 := hk 3 (by decide) (by decide)
  have h4 := hk 4 (by decide) (by decide)
  have h5 := hk 5 (by decide) (by decide)
  have h6 := hk 6 (by decide) (by decide)
  have h7 := hk 7 (by decide) (by decide)
  have h8 := hk 8 (by decide) (by decide)
  have h9 := hk 9 (by decide) (by decide)
  have h10 := hk 10 (by decide) (by decide)
  have h11 := hk 11 (by decide) (by decide)
  have h12 := hk 12 (by decide) (by decide)
  have h13 := hk 13 (by decide) (by decide)
  have h14 := hk 14 (by decide) (by decide)
  constructor
  · unfold kName
    rw [if_neg h1, if_neg h2, if_neg h3, if_neg h4, if_neg h5, if_neg h6, if_neg h7, if_neg h8, if_neg h9, if_neg h10, if_neg h11, if_neg h12, if_neg h13, if_neg h14]
  · unfold flds
    rw [if_neg h1, if_neg h2, if_neg h3, if_neg h4, if_neg h6, if_neg h7, if_neg h8, if_neg h9, if_neg h10, if_neg h11, if_neg h13, if_neg h14]
theorem zeroKind (W : World) : (zeroValue 71).run Tryz.prog W = .ok (.agg #[.string ⟨#[]⟩, .nilFunc, .slice none 0 0]) W := by kernel_rfl
theorem kinds_look {W : World} {m : Nat} (h : KindsAt W m) (k : Int) : ∃ A, RdP W A (flds k) ∧ (∀ W', W'.heap[m]? = W.heap[m]? → (Instr.lookup 72 (.map (some m)) (.int .i64 k) true).run Tryz.prog W' = .ok (.tuple #[kindV k A, .bool (isKind k)]) W') ∧ ∀ W', W'.heap[m]? = W.heap[m]? → (Instr.lookup 72 (.map (some m)) (.int .i64 k) false).run Tryz.prog W' = .ok (kindV k A) W' := by
  obtain ⟨φ, hM, h1, h2⟩ := h
  rcases hM.find (P := Tryz.prog) Tryz.underlying72 Tryz.underlying22 k with ⟨v, hv, hr1, hr2⟩ | ⟨hno, hz⟩
  · obtain ⟨hk, A, rfl, hp⟩ := h1 k v hv
    refine ⟨A, hp, fun W' hW => ?_, fun W' hW => ?_⟩
    · rw [hr1 W' hW]; unfold kindV; rw [hk, if_pos rfl]
    · rw [hr2 W' hW]; unfold kindV; rw [hk, if_pos rfl]
  · have hk : isKind k = false := by
      cases e : isKind k with
      | false => rfl
      | true => obtain ⟨v, hv⟩ := h2 k e; exact absurd hv (hno v)
    obtain ⟨e1, e2⟩ := no_kind hk
    obtain ⟨hr1, hr2⟩ := hz _ zeroKind
    refine ⟨none, by rw [e2]; exact fun h => absurd rfl h, fun W' hW => ?_, fun W' hW => ?_⟩
    · rw [hr1 W' hW]; unfold kindV; rw [hk, if_neg (by simp), e1, e2]; rfl
    · rw [hr2 W' hW]; unfold kindV; rw [if_neg (by rw [hk]; simp), e1, e2]; rfl
def Pr.kinds : Pr := ⟨fun v W => ∃ m, v = .map (some m) ∧ KindsAt W m, fun _ _ _ ⟨m, e, h⟩ hL => ⟨m, e, h.later hL⟩⟩
def Pr.kindv (k : Int) : Pr := ⟨fun v W => ∃ A, v = kindV k A ∧ RdP W A (flds k), fun _ _ _ ⟨A, e, h⟩ hL => ⟨A, e, h.m hL.m⟩⟩
theorem loadKindF {b o : Nat} {v : Value} {W : World} (hc : W.cell? ⟨b, o, none⟩ = some v) : (Instr.loadAt 22 (.pointer (some ⟨b, o, none⟩))).run Tryz.prog W = .ok v W := by
  go_simp
theorem fieldS0 {g : Nat} {W : World} : (Instr.fieldAt 29 (.pointer (some ⟨g, 0, none⟩)) 0).run Tryz.prog W = .ok (.pointer (some ⟨g, 0, none⟩)) W := by
  go_simp
theorem kindV_one (k : Int) (A : Option Addr) : ∃ cs, kindV k A = .agg cs ∧ cs.size = 3 ∧ cs.all (·.oneCell') = true ∧ cs[2]? = some (.slice A (flds k).length (flds k).length) ∧ cs[1]? = some (if isKind k then .func (.func (kRight k)) #[] #[] else .nilFunc) ∧ cs[0]? = some (.string (kName k)) := by
  refine ⟨_, rfl, rfl, ?_, rfl, rfl, rfl⟩
  cases isKind k <;> simp [Value.oneCell']
theorem newSaid (w : World) {s : Said} (hs : s.wf) : ∃ w', (Instr.storeAt 29 (.pointer (some ⟨w.heap.size, 0, none⟩)) (.agg (saidC s))).run Tryz.prog (w.alloc (.cells (saidC (Ms.blank 0)) 29)) = .ok () w' ∧ Row w' w.heap.size 29 (saidC s) ∧ Later w w' := by
  obtain ⟨w', h1, h2, h3⟩ := storeSaid (blank_wf 0) hs (Row.new w 29 (saidC (Ms.blank 0)))
  exact ⟨w', h1, h2, Below.grown ((Later.refl w).alloc _) h3 (by simp only [World.size_alloc]; omega) (fun j e => by cases e; exact Nat.le_refl _)⟩
theorem kt_same {w w' : World} {g : Nat} {cs : Array Value} (h : Row w g 29 cs) (hs : Same (fun k => k < w.heap.size ∧ k ≠ g) w w') : KT w w' := fun b T cs' ht hr => hr.same hs ⟨hr.lt, fun e => by
  subst e
  have := Row.type hr h
  subst this
  revert ht
  decide⟩
theorem zeroed_wf : ∀ (l : List Fld) {s : Said}, s.wf → (zeroed l s).wf
  | [], _, h => h
  | f :: l, s, h => zeroed_wf l (s := zero1 s f) (zero1_wf h f)
theorem zeroed_snoc (l : List Fld) (f : Fld) (s : Said) : zeroed (l ++ [f]) s = zero1 (zeroed l s) f := by simp [zeroed]
end Go.Proofs.YtcajhdmppfiaeaaGreat
namespace Go.Proofs.YtcajhdmppfiaeaaGreat
open Go.RowKit Ms
structure LaterK (B : Nat) (w W : World) : Prop where
  os : W.os = w.os
  tape : W.tape = w.tape
  output : W.output = w.output
  size : w.heap.size ≤ W.heap.size
  block : ∀ k, k < w.heap.size → (k < B ∨ ∀ cs, ¬ Row w k 71 cs) → W.heap[k]? = w.heap[k]?
  kinds : ∀ k cs, Row w k 71 cs → cs.size = 3 → ∃ cs', Row W k 71 cs' ∧ cs'.size = 3
theorem Later.k {w W : World} (h : Later w W) (B : Nat) : LaterK B w W := ⟨h.os, h.tape, h.output, h.size, fun k hk _ => h.block k hk, fun k cs hr hz => ⟨cs, hr.later h, hz⟩⟩
theorem LaterK.kt {B : Nat} {w W : World} (h : LaterK B w W) : KT w W := fun b T cs ht hr => (h.block b hr.lt (.inr fun cs' hr' => by
  have := Row.type hr hr'
  subst this
  revert ht
  decide)).trans hr
theorem LaterK.map {B : Nat} {w W : World} {m : Nat} {φ : Int → Value → Prop} (h : LaterK B w W) (hm : MapHas w m φ) : MapHas W m φ := by
  obtain ⟨es, clk, h1, h2, h3⟩ := hm
  exact ⟨es, clk, (h.block m (Array.getElem?_eq_some_iff.1 h1).1 (.inr fun cs hr => by
    have e := (show w.heap[m]? = some (Obj.cells cs 71 (0, 0)) from hr).symm.trans h1
    cases e)).trans h1, h2, h3⟩
theorem KindV.kt {W W' : World} {name : ByteArray} {F : FuncId} {fs : List Fld} {v : Value} (h : KindV W name F fs v) (k : KT W W') : KindV W' name F fs v := by
  obtain ⟨A, e, h⟩ := h
  exact ⟨A, e, h.kt k⟩
theorem LaterK.at_ {B : Nat} {w W : World} {m : Nat} (h : LaterK B w W) (hm : KindsAt w m) : KindsAt W m := by
  obtain ⟨φ, h1, h2, h3⟩ := hm
  exact ⟨φ, h.map h1, fun i v hv => ⟨(h2 i v hv).1, (h2 i v hv).2.kt h.kt⟩, h3⟩
theorem LaterK.stored {B : Nat} {w W : World} {b : Nat} {cs : Array Value} (hB : B ≤ b) (hr : Row W b 71 cs) (hz : cs.size = 3) (hr0 : ∃ cs0, Row w b 71 cs0) (hg : w.grownBy W (some b)) : LaterK B w W := by
  obtain ⟨cs0, hr0⟩ := hr0
  refine ⟨hg.os, hg.tape, hg.output, hg.size, fun k hk h => hg.block k hk (fun e => ?_), fun k cs' hr' hz' => ?_⟩
  · injection e with e
    subst e
    rcases h with h | h
    · omega
    · exact h _ hr0
  · by_cases e : k = b
    · subst e
      exact ⟨cs, hr, hz⟩
    · exact ⟨cs', hr'.grown hg (fun e' => e (Option.some.inj e')), hz'⟩
def VC (k : Int) (g B : Nat) (j : Nat) (xs : Nat → Value) (W : World) : Prop := match j with
  | 0 => ∃ m, xs 0 = .map (some m) ∧ KindsAt W m
  | 1 => xs 1 = .pointer (some ⟨g, 0, none⟩)
  | 2 => xs 2 = .int .i64 k
  | 3 => ∃ A, xs 3 = .tuple #[kindV k A, .bool (isKind k)] ∧ RdP W A (flds k)
  | 4 => ∃ A, xs 4 = .tuple #[kindV k A, .bool (isKind k)] ∧ RdP W A (flds k)
  | 5 => ∃ A, xs 5 = kindV k A ∧ RdP W A (flds k)
  | 6 => xs 6 = .bool (isKind k)
  | 7 => ∃ b cs, xs 7 = .pointer (some ⟨b, 0, none⟩) ∧ Row W b 71 cs ∧ cs.size = 3 ∧ B ≤ b
  | 8 => ∃ b A cs, xs 7 = .pointer (some ⟨b, 0, none⟩) ∧ kindV k A = .agg cs ∧ RdP W A (flds k) ∧ B ≤ b ∧ Row W b 71 cs
  | _ => True
theorem putKind {W : World} {b : Nat} {k : Int} {A : Option Addr} {cs0 : Array Value} (hr : Row W b 71 cs0) (h0 : cs0.size = 3) : ∃ W' cs, (Instr.storeAt 71 (.pointer (some ⟨b, 0, none⟩)) (kindV k A)).run Tryz.prog W = .ok () W' ∧ kindV k A = .agg cs ∧ cs.size = 3 ∧ Row W' b 71 cs ∧ W.grownBy W' (some b) := by
  obtain ⟨cs, e, hz, h1, h2, h3, _⟩ := kindV_one k A
  rw [e]
  refine ⟨_, cs, run_store_row hr cs (by rw [hz]; exact infoKind) (by rw [hz, h0]; decide) h1, rfl, hz, ?_, grown_setCells _ _ _⟩
  have hr2 := row_setCells cs.toList 0 _ _ hr
  rwa [setFrom_whole _ _ (by rw [Array.length_toList, hz, h0]), Array.toArray_toList] at hr2
def EC (B i : Nat) (W W' : World) : Prop := if i = 8 then LaterK B W W' else Later W W'
theorem EC.k {B i : Nat} {W W' : World} (h : EC B i W W') : LaterK B W W' := by
  unfold EC at h
  split at h
  · exact h
  · exact h.k B
theorem VC.st (ops : Array Oper) (h87 : waits ops 8 7 = true) {k : Int} {g B : Nat} : ∀ i j xs v W W', j < ops.size → j ≠ i → waits ops j i = false → VC k g B j xs W → EC B i W W' → VC k g B j (upd xs i v) W' := by
  intro i j xs v W W' hj hne hw hV hE
  have hk := hE.k
  have hup : upd xs i v j = xs j := upd_ne xs v hne
  unfold VC at *
  split at hV
  · obtain ⟨m, e, h⟩ := hV; exact ⟨m, by rw [hup]; exact e, hk.at_ h⟩
  · rw [hup]; exact hV
  · rw [hup]; exact hV
  · obtain ⟨m, e, h⟩ := hV; exact ⟨m, by rw [hup]; exact e, h.kt hk.kt⟩
  · obtain ⟨m, e, h⟩ := hV; exact ⟨m, by rw [hup]; exact e, h.kt hk.kt⟩
  · obtain ⟨m, e, h⟩ := hV; exact ⟨m, by rw [hup]; exact e, h.kt hk.kt⟩
  · rw [hup]; exact hV
  · obtain ⟨b, cs, e, h, hz, hb⟩ := hV
    obtain ⟨cs', h', hz'⟩ := hk.kinds b cs h hz
    exact ⟨b, cs', by rw [hup]; exact e, h', hz', hb⟩
  · obtain ⟨b, A, cs, e, h1, h2, h3, h4⟩ := hV
    have hi7 : (7 : Nat) ≠ i := fun e => by subst e; rw [h87] at hw; cases hw
    have hL : Later W W' := by
      unfold EC at hE
      rwa [if_neg (fun e => hne e.symm)] at hE
    exact ⟨b, A, cs, by rw [upd_ne xs v hi7]; exact e, h1, h2.kt hk.kt, h3, h4.later hL⟩
  · trivial
theorem plainX {P : Program} {ops : Array Oper} {Q : Exit → Act → World → Prop} {o : Oper} {a : Act} {W : World} {R : Value → World → Prop} (B i : Nat) (hi : i ≠ 8) (hg : o.guard = none) (h : o.wp P a W (fun a' W' => ∃ v, a' = a.put o.dst v ∧ Later W W' ∧ R v W') Q) : StepOkE P ops Q (EC B i) o a W R :=
  stepOkE_later (fun W' h => by unfold EC; rw [if_neg hi]; exact h) hg h
theorem EC.refl (B i : Nat) (W : World) : EC B i W W := by
  unfold EC
  split
  · exact (Later.refl W).k B
  · exact Later.refl W
theorem EC.below {w : World} (i : Nat) (W W' : World) (h : Below w.heap.size w W) (hE : EC w.heap.size i W W') : Below w.heap.size w W' :=
  ⟨hE.k.os.trans h.os, hE.k.tape.trans h.tape, hE.k.output.trans h.output, Nat.le_trans h.size hE.k.size, fun k hk => (hE.k.block k (Nat.lt_of_lt_of_le hk h.size) (.inl hk)).trans (h.block k hk)⟩
end Go.Proofs.YtcajhdmppfiaeaaGreat
namespace Go.Proofs.YtcajhdmppfiaeaaGreat
open Go.RowKit Ms
theorem buildSaidK (k : Int) (w : World) : (Instr.build 29 #[(0, .int .i64 k)]).run Tryz.prog w = .ok (.agg (saidC (Ms.blank k))) w := by kernel_rfl
theorem flds_len (k : Int) : (flds k).length ≤ 9 := by
  unfold flds
  by_cases h1 : k = 1
  · rw [if_pos h1]; decide
  rw [if_neg h1]
  by_cases h2 : k = 2
  · rw [if_pos h2]; decide
  rw [if_neg h2]
  by_cases h3 : k = 3
  · rw [if_pos h3]; decide
  rw [if_neg h3]
  by_cases h4 : k = 4
  · rw [if_pos h4]; decide
  rw [if_neg h4]
  by_cases h6 : k = 6
  · rw [if_pos h6]; decide
  rw [if_neg h6]
  by_cases h7 : k = 7
  · rw [if_pos h7]; decide
  rw [if_neg h7]
  by_cases h8 : k = 8
  · rw [if_pos h8]; decide
  rw [if_neg h8]
  by_cases h9 : k = 9
  · rw [if_pos h9]; decide
  rw [if_neg h9]
  by_cases h10 : k = 10
  · rw [if_pos h10]; decide
  rw [if_neg h10]
  by_cases h11 : k = 11
  · rw [if_pos h11]; decide
  rw [if_neg h11]
  by_cases h13 : k = 13
  · rw [if_pos h13]; decide
  rw [if_neg h13]
  by_cases h14 : k = 14
  · rw [if_pos h14]; decide
  rw [if_neg h14]
  decide
theorem RdP.part {W : World} {A : Option Addr} {fs : List Fld} (h : RdP W A fs) {k : Nat} (hk : k < fs.length) : ∃ b cs, A = some ⟨b, 0, none⟩ ∧ PartC W cs fs[k] ∧ (Instr.loadAt 78 (.pointer (some ⟨b, k * 3, none⟩))).run Tryz.prog W = .ok (.agg cs) W := by
  obtain ⟨b, xs, e, hr, hc⟩ := h (by intro e; subst e; cases hk)
  obtain ⟨cs, h1, h2⟩ := hc k hk
  obtain ⟨c0, c1, c2, rfl⟩ := h1.size
  exact ⟨b, _, e, h1, run_load_part hr (fun j hj => by
    have hj3 : j < 3 := hj
    rw [Array.getElem?_eq_getElem hj]
    exact h2 j _ (Array.getElem?_eq_getElem hj)) Tryz.underlying78 rfl infoPart⟩
structure ZLoop (wl : World) (g5 : Nat) (fs : List Fld) (s : Said) (k : Nat) (wr : World) : Prop where
  row : Row wr g5 29 (saidC (zeroed (fs.take k) s))
  same : Same (fun x => x < wl.heap.size ∧ x ≠ g5) wl wr
set_option maxRecDepth 100000 in
set_option maxHeartbeats 4000000 in
theorem mcheck_any (s : Said) (hs : s.wf) (hm : s.route.length ≤ 9223372036854775807) (w : World) : Calls Tryz.prog 13 #[.agg (saidC s)] w fun e w' => e = .returned (.int .i64 (bodyE s)) ∧ Later w w' := by
  have k1 := Row.new w 29 (saidC s)
  have hb := below_new w (.cells (saidC s) 29)
  have hbx := boxSaid hs w
  obtain ⟨b0, h00⟩ : ∃ b, bodyE s = b := ⟨_, rfl⟩
  rw [h00]
  have HOP := Lib.hid h00
  clear h00
  go_enter Tryz.func13, Tryz.ntmps13
  go_upto_region 1 with fail
  obtain ⟨g, hg⟩ : ∃ q, q = w.heap.size := ⟨_, rfl⟩
  rw [← hg] at k1 ⊢
  clear hbx hg
  generalize w.alloc (.cells (saidC s) 29) = w1 at *
  refine (wpIn_wide (n := 0)).1 ?_
  refine wpIn_region_lastX wide_wide (EC w1.heap.size) (fun a b => Below a.heap.size a b) (EC.refl _) (fun i W W' h hE => EC.below i W W' h hE) ((Below.refl _ w1).drew) (VC s.kind g w1.heap.size) (VC.st _ (by kernel_rfl)) (by kernel_rfl) (by kernel_rfl) (by kernel_rfl) (by kernel_rfl) (by kernel_rfl) (by kernel_rfl) rfl ⟨?_, ?_, ?_, ?_, ?_, ?_, ?_, ?_, ?_, trivial⟩ ?_
  · intro a W xs hG he
    exact plainX _ 0 (by decide) rfl (op_callF (vs := #[]) rfl (by simp only [List.map_toArray, List.map_nil]) (enters_of Tryz.func26 (by kernel_rfl) rfl) ((kinds_any W).mono fun e W' ⟨m, he', hk', hb', _⟩ => ⟨_, he', hb', m, upd_self _ _ _, hk'⟩))
  · intro a W xs hG he
    exact plainX _ 1 (by decide) rfl (op_fieldAddr rfl (he.keep (.tmp 1) (by kernel_rfl)) fieldS0 (upd_self _ _ _))
  · intro a W xs hG he
    have v1 : xs 1 = .pointer (some ⟨g, 0, none⟩) := he.get 1 (by decide) (by kernel_rfl)
    exact plainX _ 2 (by decide) rfl (op_load rfl ((he.val 1 12 (by kernel_rfl) rfl).trans v1) (loadKindF (((k1.later hG).cell 0).trans (saidC_kind hs))) (upd_self _ _ _))
  · intro a W xs hG he
    obtain ⟨m, v0, hK⟩ : ∃ m, xs 0 = .map (some m) ∧ KindsAt W m := he.get 0 (by decide) (by kernel_rfl)
    have v2 : xs 2 = .int .i64 s.kind := he.get 2 (by decide) (by kernel_rfl)
    obtain ⟨A, hP, hr, _⟩ := kinds_look hK s.kind
    exact plainX _ 3 (by decide) rfl (op_lookup rfl ((he.val 0 11 (by kernel_rfl) rfl).trans v0) ((he.val 2 13 (by kernel_rfl) rfl).trans v2) (hr W rfl) ⟨A, upd_self _ _ _, hP⟩)
  · intro a W xs hG he
    obtain ⟨A, v3, hP⟩ : ∃ A, xs 3 = .tuple #[kindV s.kind A, .bool (isKind s.kind)] ∧ RdP W A (flds s.kind) := he.get 3 (by decide) (by kernel_rfl)
    exact plainX _ 4 (by decide) rfl (op_move rfl ⟨A, (upd_self _ _ _).trans ((he.val 3 14 (by kernel_rfl) rfl).trans v3), hP⟩)
  · intro a W xs hG he
    obtain ⟨A, v4, hP⟩ : ∃ A, xs 4 = .tuple #[kindV s.kind A, .bool (isKind s.kind)] ∧ RdP W A (flds s.kind) := he.get 4 (by decide) (by kernel_rfl)
    exact plainX _ 5 (by decide) rfl (op_extract rfl ((he.val 4 10 (by kernel_rfl) rfl).trans v4) rfl ⟨A, upd_self _ _ _, hP⟩)
  · intro a W xs hG he
    obtain ⟨A, v4, hP⟩ : ∃ A, xs 4 = .tuple #[kindV s.kind A, .bool (isKind s.kind)] ∧ RdP W A (flds s.kind) := he.get 4 (by decide) (by kernel_rfl)
    exact plainX _ 6 (by decide) rfl (op_extract rfl ((he.val 4 10 (by kernel_rfl) rfl).trans v4) rfl (upd_self _ _ _))
  · intro a W xs hG he
    exact plainX _ 7 (by decide) rfl (op_alloc rfl (allocKind W) ((Later.refl W).alloc _) ⟨_, _, upd_self _ _ _, Row.new W _ _, rfl, hG.size⟩)
  · intro a W xs hG he
    obtain ⟨b, cs0, v7, hr0, hz0, hB⟩ : ∃ b cs, xs 7 = .pointer (some ⟨b, 0, none⟩) ∧ Row W b 71 cs ∧ cs.size = 3 ∧ w1.heap.size ≤ b := he.get 7 (by decide) (by kernel_rfl)
    obtain ⟨A, v5, hP⟩ : ∃ A, xs 5 = kindV s.kind A ∧ RdP W A (flds s.kind) := he.get 5 (by decide) (by kernel_rfl)
    obtain ⟨W', cs, hst, hcs, hz, hr', hgr⟩ := putKind (k := s.kind) (A := A) hr0 hz0
    have hK : LaterK w1.heap.size W W' := LaterK.stored hB hr' hz ⟨_, hr0⟩ hgr
    refine stepOkE_want rfl (op_storeK rfl ((he.val 7 3 (by kernel_rfl) rfl).trans v7) ((he.val 5 15 (by kernel_rfl) rfl).trans v5) hst ⟨undef, rfl, ?_, ?_⟩)
    · unfold EC; rw [if_pos rfl]; exact hK
    · exact ⟨b, A, cs, (upd_ne xs _ (by decide)).trans v7, hcs, hP.kt hK.kt, hB, hr'⟩
  intro xs W hG hx hk hgt
  have e3 := hgt 7 3 (by decide) (by kernel_rfl)
  have e16 := hgt 6 16 (by decide) (by kernel_rfl)
  have v6 : xs 6 = .bool (isKind s.kind) := hx 6 (by decide)
  rw [v6] at e16
  obtain ⟨b, A, cs, v7, hcs, hP, hB, hbr⟩ : ∃ b A cs, xs 7 = .pointer (some ⟨b, 0, none⟩) ∧ kindV s.kind A = .agg cs ∧ RdP W A (flds s.kind) ∧ w1.heap.size ≤ b ∧ Row W b 71 cs := hx 8 (by decide)
  refine last_assign rfl e16 ?_
  have k2 := k1.later hG
  have hbW : Later w W := Later.step hb hG
  obtain ⟨cs', ecs, hz, h1, hcs2, hcs1, _⟩ := kindV_one s.kind A
  have : cs' = cs := by
    have := ecs.symm.trans hcs
    injection this
  subst this
  have c2 : W.cell? ⟨b, 2, none⟩ = some (.slice A (flds s.kind).length (flds s.kind).length) := (hbr.cell 2).trans hcs2
  have hgb : g < b := by have := k1.lt; omega
  simp only [initL, lastL, putL, Nat.reduceAdd, Act.put, List.setIfInBounds_toArray, List.set_cons_succ, List.set_cons_zero]
  rw [v7]
  clear hx hk hgt e3 e16 v7 v6 hB
  have hzero : ∀ a b : World, True := fun _ _ => trivial
  clear hzero
  generalize xs 4 = y4
  generalize xs 0 = y0
  generalize xs 1 = y1
  generalize xs 2 = y2
  generalize xs 3 = y3
  generalize xs 5 = y5
  generalize xs 6 = y6
  have hld := loadSaid hs k2
  obtain ⟨w3, hst, k5, hL3⟩ := newSaid W hs
  go_upto_region 3 with (first
    | (guard_target =~ wpList _ _ _ (_ :: _) _ _; refine wpList_load rfl 29 (.tmp 1) rfl (.pointer (some ⟨g, 0, none⟩)) rfl hld ?_)
    | (with_reducible refine wpList_alloc rfl 29 rfl (allocSaid _) ?_)
    | (guard_target =~ wpList _ _ _ (_ :: _) _ _; refine wpList_store rfl 29 (.tmp 5) (.tmp 17) rfl (.pointer (some ⟨W.heap.size, 0, none⟩)) (.agg (saidC s)) rfl rfl hst ?_)
    | fail)
  have hbl := hbr.lt
  obtain ⟨q, hq⟩ : ∃ q, q = W.heap.size := ⟨_, rfl⟩
  rw [← hq] at k5 hbl ⊢
  have k3 := k2.later hL3
  have hb3 := hbW.step hL3
  have hbr3 := hbr.later hL3
  have hP3 := hP.m hL3.m
  have c23 : w3.cell? ⟨b, 2, none⟩ = some (.slice A (flds s.kind).length (flds s.kind).length) := (hbr3.cell 2).trans hcs2
  have hqw : w.heap.size ≤ q := by rw [hq]; exact hbW.size
  have hqs := k5.lt
  have hqs' : q ≤ w3.heap.size := Nat.le_of_lt hqs
  clear hst hld hq k2 hbr hP c2 hbW hL3 k1 hb hG
  obtain ⟨fs, hfs⟩ : ∃ fs, flds s.kind = fs := ⟨_, rfl⟩
  rw [hfs] at c23 hP3 hcs2
  have HFS := Lib.hid hfs
  clear hfs
  obtain ⟨n, hn⟩ : ∃ n, fs.length = n := ⟨_, rfl⟩
  rw [hn] at c23
  have hnm : n ≤ 9 := by
    rw [← hn, ← HFS.out]
    exact flds_len _
  have HN := Lib.hid hn
  clear hn
  have hL0 : ZLoop w3 q fs s 0 w3 := ⟨by simpa [zeroed] using k5, Same.refl _ _⟩
  have HP3 := Lib.hid hP3
  have HB3 := Lib.hid hb3
  clear hP3 hb3
  have HCS := Lib.hid (And.intro hcs1 (And.intro hz ecs))
  clear hcs1 hz ecs hcs hcs2 h1
  go_wp2_with fail
  go_loopw [21] (fun t wr => ∃ k : Nat, k ≤ n ∧ t = .int .i64 (k : Int) ∧ ZLoop w3 q fs s k wr) (fun t _ => n - (intOf t).toNat)
  case atStart => exact ⟨0, by omega, rfl, hL0⟩
  case round =>
    obtain ⟨k, hk, rfl, hz⟩ := hrel
    obtain ⟨hrow, hsame⟩ := hz
    by_cases hlt : k < n
    · have hd : decide ((k : Int) < (n : Int)) = true := decide_eq_true (by omega)
      have hd' : decide (k < n) = true := decide_eq_true hlt
      have hkl : k < fs.length := by rw [HN.out]; exact hlt
      have hKT := kt_same k5 hsame
      obtain ⟨bP, pc, hA, hpc, hldp⟩ := (HP3.out.kt hKT).part hkl
      subst hA
      have hsn : fs.take (k + 1) = fs.take k ++ [fs[k]] := List.take_succ_eq_append_getElem hkl
      have HSN := Lib.hid hsn
      clear hsn
      generalize fs[k] = f at *
      obtain ⟨w4, hst, hpa, hL4⟩ := newPart wr hpc
      have HLP := Lib.hid hldp
      clear hldp
      obtain ⟨cs4, hr4, hpc4⟩ := hpa
      have hrow4 := hrow.later hL4
      obtain ⟨F, caps, hF, hE, hcall⟩ := zero_any f cs4 q (zeroed (fs.take k) s) w4 (zeroed_wf _ hs) hpc4 hrow4
      have c27 : w4.cell? ⟨wr.heap.size, 2, none⟩ = some (.func (.func F) #[] caps) := (hr4.cell 2).trans hF
      have HCALL := Lib.hid hcall
      have HE := Lib.hid hE
      have hss : w3.heap.size ≤ wr.heap.size := hsame.size
      have HSAME := Lib.hid (hsame.trans ((Same.of_below hL4.below).mono fun x h => Nat.lt_of_lt_of_le h.1 hss))
      have hss4 : w3.heap.size ≤ w4.heap.size := Nat.le_trans hss hL4.size
      clear hcall hE hF hrow4 hpc4 hr4 hL4 hsame hrow hKT hpc
      have hldp := HLP.out
      go_upto_region 6 with (first
        | (guard_target =~ wpList _ _ _ (_ :: _) _ _; refine wpList_load rfl 78 (.tmp 23) rfl (.pointer (some ⟨bP, k * 3, none⟩)) rfl hldp ?_)
        | (with_reducible refine wpList_alloc rfl 78 rfl (allocPart _) ?_)
        | (guard_target =~ wpList _ _ _ (_ :: _) _ _; refine wpList_store rfl 78 (.tmp 7) (.tmp 24) rfl (.pointer (some ⟨wr.heap.size, 0, none⟩)) (.agg pc) rfl rfl hst ?_)
        | fail)
      clear hldp hst
      go_wp2_with (first
        | (guard_target =~ wpList _ _ _ (_ :: _) _ _; refine wpList_callV rfl (.tmp 26) #[.tmp 5] _ rfl (f := F) (bound := caps) (vs := #[.pointer (some ⟨q, 0, none⟩)]) rfl (by simp only [List.map_toArray, List.map_cons, List.map_nil]; rfl) HE.out rfl ?_; refine HCALL.out.mono ?_; rintro e w5 ⟨rfl, hr5, hg5⟩; refine .inl ⟨_, rfl, ?_⟩)
        | fail)
      go_roundw
      case rel => exact ⟨k + 1, by omega, by go_num, ⟨by rw [HSN.out, zeroed_snoc]; exact hr5, HSAME.out.trans ((Same.of_grown hg5).mono fun x h => ⟨Nat.lt_of_lt_of_le h.1 hss4, fun e => h.2 (Option.some.inj e)⟩)⟩⟩
      case measure => simp [intOf]; omega
    · obtain rfl : k = n := by omega
      have hd : decide ((k : Int) < (k : Int)) = false := decide_eq_false (by omega)
      have hd' : decide (k < k) = false := decide_eq_false (by omega)
      rw [List.take_of_length_le (by rw [HN.out]; exact Nat.le_refl _)] at hrow
      have k4 := k3.same hsame ⟨k3.lt, by omega⟩
      have kb4 := hbr3.same hsame ⟨hbr3.lt, by omega⟩
      have hb4 : Below w.heap.size w wr := HB3.out.trans ((Same.below (hsame.mono fun x h => ⟨Nat.lt_of_lt_of_le h (Nat.le_trans hqw hqs'), by omega⟩)))
      have c0 : wr.cell? ⟨g, 296, none⟩ = some (.int .i64 s.id) := (k4.cell _).trans (saidC_n hs 7 (by decide))
      have c1 : wr.cell? ⟨g, 297, none⟩ = some (.int .i64 s.number) := (k4.cell _).trans (saidC_n hs 8 (by decide))
      have c2 : wr.cell? ⟨g, 298, none⟩ = some (.int .i64 s.index) := (k4.cell _).trans (saidC_n hs 9 (by decide))
      have c3 : wr.cell? ⟨g, 299, none⟩ = some (.int .i64 s.expiry) := (k4.cell _).trans (saidC_n hs 10 (by decide))
      have hL5 : Later wr (wr.alloc (.cells #[.int .i64 s.id, .int .i64 s.number, .int .i64 s.index, .int .i64 s.expiry] 2)) := (Later.refl wr).alloc _
      have hnr : RdV (wr.alloc (.cells #[.int .i64 s.id, .int .i64 s.number, .int .i64 s.index, .int .i64 s.expiry] 2)) (some ⟨wr.heap.size, 0, none⟩) ([s.id, s.number, s.index, s.expiry].map numV) := RdV.row (Row.new wr 2 _)
      go_upto_region 9 with fail
      have hrow5 := hrow.later hL5
      have k5' := k4.later hL5
      have kb5 := kb4.later hL5
      have hb5 := hb4.trans (hL5.below.mono hb4.size)
      obtain ⟨qn, hqn⟩ : ∃ x, x = wr.heap.size := ⟨_, rfl⟩
      rw [← hqn] at hnr ⊢
      clear c0 c1 c2 c3 hrow k4 kb4 hb4 hL5 hqn hsame hL0 k3 hbr3 c23 k5 HP3 HB3
      generalize wr.alloc (.cells #[.int .i64 s.id, .int .i64 s.number, .int .i64 s.index, .int .i64 s.expiry] 2) = w5 at *
      have hct := containsF_any 33 #[] (fun z => !within z) (some ⟨qn, 0, none⟩) 4 4 [s.id, s.number, s.index, s.expiry] w5 rfl (by decide) hnr (enters_of Tryz.func33 (by kernel_rfl) rfl) (fun z => wideFn_any z w5)
      obtain ⟨b3, hb3⟩ : ∃ x, ([s.id, s.number, s.index, s.expiry].any fun z => !within z) = x := ⟨_, rfl⟩
      rw [hb3] at hct
      have HB3 := Lib.hid hb3
      have HCT := Lib.hid hct
      clear hb3 hct hnr
      go_upto_region 10 with (first
        | (go_at_call 32; refine HCT.out.mono ?_; rintro e w6 ⟨rfl, rfl⟩)
        | fail)
      obtain ⟨b1, hb1⟩ : ∃ x, isKind s.kind = x := ⟨_, rfl⟩
      obtain ⟨b2, hb2⟩ : ∃ x, decide (zeroed fs s = Ms.blank s.kind) = x := ⟨_, rfl⟩
      obtain ⟨b4, hb4⟩ : ∃ x, amt s.amount = x := ⟨_, rfl⟩
      obtain ⟨b5, hb5'⟩ : ∃ x, specialK s.kind s = x := ⟨_, rfl⟩
      have hres : b0 = if (b1 && b2 && !b3 && b4 && b5) then 0 else 2 := by
        rw [← HOP.out, ← HB3.out, ← hb1, ← hb2, ← hb4, ← hb5', ← HFS.out, ← special_eq]
        unfold bodyE Ms.right
        simp [Bool.and_assoc]
      have HRES := Lib.hid hres
      have hc4 := kRight_any s.kind s hs hm
      rw [hb5'] at hc4
      have HC4 := Lib.hid hc4
      have hlz := loadSaid (zeroed_wf fs hs) hrow5
      have hld := loadSaid hs k5'
      have ck : w6.cell? ⟨g, 0, none⟩ = some (.int .i64 s.kind) := (k5'.cell _).trans (saidC_kind hs)
      have ca : w6.cell? ⟨g, 103, none⟩ = some (.int .i64 s.amount) := (k5'.cell _).trans (saidC_n hs 6 (by decide))
      rw [hb1]
      have hcs1 := HCS.out.1
      rw [hb1] at hcs1
      have hnq := neqSaid (zeroed_wf fs hs) (blank_wf s.kind)
      rw [hb2] at hnq
      have HNQ := Lib.hid hnq
      have HCS1 := Lib.hid hcs1
      have HB4 := Lib.hid hb4
      clear hres hc4 hb1 hb2 hb4 hb5' hnq hcs1 HCS HOP HB3 HFS
      cases b1
      · obtain rfl : b0 = 2 := by rw [HRES.out]; rfl
        go_wp2_with fail
        go_ret
        exact ⟨rfl, hb5⟩
      cases b2
      · obtain rfl : b0 = 2 := by rw [HRES.out]; rfl
        go_wp2_with (first
          | (guard_target =~ wpList _ _ _ (_ :: _) _ _; refine wpList_loadG rfl 29 (.tmp 5) rfl (.pointer (some ⟨q, 0, none⟩)) rfl hlz ?_)
          | (guard_target =~ wpList _ _ _ (_ :: _) _ _; refine wpList_buildG rfl 29 _ rfl #[(0, .int .i64 s.kind)] (by simp only [List.map_toArray, List.map_cons, List.map_nil]; rfl) (buildSaidK _ _) ?_)
          | (guard_target =~ wpList _ _ _ (_ :: _) _ _; refine wpList_binG rfl .neq 29 _ (.tmp 43) (.tmp 46) rfl (.agg (saidC (zeroed fs s))) (.agg (saidC (Ms.blank s.kind))) rfl rfl (by kernel_rfl) (HNQ.out _) ?_)
          | fail)
        go_ret
        exact ⟨rfl, hb5⟩
      cases b3
      rotate_left
      · obtain rfl : b0 = 2 := by rw [HRES.out]; rfl
        go_wp2_with (first
          | (guard_target =~ wpList _ _ _ (_ :: _) _ _; refine wpList_loadG rfl 29 (.tmp 5) rfl (.pointer (some ⟨q, 0, none⟩)) rfl hlz ?_)
          | (guard_target =~ wpList _ _ _ (_ :: _) _ _; refine wpList_buildG rfl 29 _ rfl #[(0, .int .i64 s.kind)] (by simp only [List.map_toArray, List.map_cons, List.map_nil]; rfl) (buildSaidK _ _) ?_)
          | (guard_target =~ wpList _ _ _ (_ :: _) _ _; refine wpList_binG rfl .neq 29 _ (.tmp 43) (.tmp 46) rfl (.agg (saidC (zeroed fs s))) (.agg (saidC (Ms.blank s.kind))) rfl rfl (by kernel_rfl) (HNQ.out _) ?_)
          | fail)
        go_ret
        exact ⟨rfl, hb5⟩
      have hL6 : Later w6 (w6.alloc (.cells #[numV s.amount] 2)) := (Later.refl w6).alloc _
      have HL6 := Lib.hid hL6
      clear hL6
      cases b4
      · obtain rfl : b0 = 2 := by rw [HRES.out]; rfl
        go_wp2_with (first
          | (guard_target =~ wpList _ _ _ (_ :: _) _ _; refine wpList_loadG rfl 29 (.tmp 5) rfl (.pointer (some ⟨q, 0, none⟩)) rfl hlz ?_)
          | (guard_target =~ wpList _ _ _ (_ :: _) _ _; refine wpList_buildG rfl 29 _ rfl #[(0, .int .i64 s.kind)] (by simp only [List.map_toArray, List.map_cons, List.map_nil]; rfl) (buildSaidK _ _) ?_)
          | (guard_target =~ wpList _ _ _ (_ :: _) _ _; refine wpList_binG rfl .neq 29 _ (.tmp 43) (.tmp 46) rfl (.agg (saidC (zeroed fs s))) (.agg (saidC (Ms.blank s.kind))) rfl rfl (by kernel_rfl) (HNQ.out _) ?_)
          | (go_at_call 35; refine (moneyCheck_any (some ⟨w6.heap.size, 0, none⟩) 1 s.amount _ (RdV.row (Row.new w6 2 #[numV s.amount]))).mono ?_; rintro e w7 ⟨rfl, hL7⟩; rw [HB4.out])
          | fail)
        go_ret
        exact ⟨rfl, hb5.trans ((HL6.out.step hL7).below.mono hb5.size)⟩
      have hk7 : ∀ W, Later (w6.alloc (.cells #[numV s.amount] 2)) W → Row W g 29 (saidC s) ∧ W.cell? ⟨b, 1, none⟩ = some (.func (.func (kRight s.kind)) #[] #[]) := fun W hW => ⟨k5'.later (HL6.out.step hW), ((kb5.later (HL6.out.step hW)).cell 1).trans HCS1.out⟩
      have HK7 := Lib.hid hk7
      clear hk7
      cases b5
      · obtain rfl : b0 = 2 := by rw [HRES.out]; rfl
        go_wp2_with (first
          | (guard_target =~ wpList _ _ _ (_ :: _) _ _; refine wpList_loadG rfl 29 (.tmp 5) rfl (.pointer (some ⟨q, 0, none⟩)) rfl hlz ?_)
          | (guard_target =~ wpList _ _ _ (_ :: _) _ _; refine wpList_buildG rfl 29 _ rfl #[(0, .int .i64 s.kind)] (by simp only [List.map_toArray, List.map_cons, List.map_nil]; rfl) (buildSaidK _ _) ?_)
          | (guard_target =~ wpList _ _ _ (_ :: _) _ _; refine wpList_binG rfl .neq 29 _ (.tmp 43) (.tmp 46) rfl (.agg (saidC (zeroed fs s))) (.agg (saidC (Ms.blank s.kind))) rfl rfl (by kernel_rfl) (HNQ.out _) ?_)
          | (go_at_call 35; refine (moneyCheck_any (some ⟨w6.heap.size, 0, none⟩) 1 s.amount _ (RdV.row (Row.new w6 2 #[numV s.amount]))).mono ?_; rintro e w7 ⟨rfl, hL7⟩; rw [HB4.out]; have hq7 := HK7.out w7 hL7; obtain ⟨k7, cf⟩ := hq7; have hl7 := loadSaid hs k7)
          | (guard_target =~ wpList _ _ _ (_ :: _) _ _; refine wpList_loadG rfl 29 (.tmp 1) rfl (.pointer (some ⟨g, 0, none⟩)) rfl hl7 ?_)
          | (guard_target =~ wpList _ _ _ (_ :: _) _ _; refine wpList_callVG rfl (.tmp 61) #[.tmp 62] _ rfl (f := kRight s.kind) (bound := #[]) (vs := #[.agg (saidC s)]) rfl (by simp only [List.map_toArray, List.map_cons, List.map_nil]; rfl) (kRight_enters _) rfl ?_; refine (HC4.out _).mono ?_; rintro e w8 ⟨rfl, hL8⟩; refine ⟨_, rfl, ?_⟩)
          | fail)
        go_ret
        exact ⟨rfl, hb5.trans (((HL6.out.step hL7).step hL8).below.mono hb5.size)⟩
      · obtain rfl : b0 = 0 := by rw [HRES.out]; rfl
        go_wp2_with (first
          | (guard_target =~ wpList _ _ _ (_ :: _) _ _; refine wpList_loadG rfl 29 (.tmp 5) rfl (.pointer (some ⟨q, 0, none⟩)) rfl hlz ?_)
          | (guard_target =~ wpList _ _ _ (_ :: _) _ _; refine wpList_buildG rfl 29 _ rfl #[(0, .int .i64 s.kind)] (by simp only [List.map_toArray, List.map_cons, List.map_nil]; rfl) (buildSaidK _ _) ?_)
          | (guard_target =~ wpList _ _ _ (_ :: _) _ _; refine wpList_binG rfl .neq 29 _ (.tmp 43) (.tmp 46) rfl (.agg (saidC (zeroed fs s))) (.agg (saidC (Ms.blank s.kind))) rfl rfl (by kernel_rfl) (HNQ.out _) ?_)
          | (go_at_call 35; refine (moneyCheck_any (some ⟨w6.heap.size, 0, none⟩) 1 s.amount _ (RdV.row (Row.new w6 2 #[numV s.amount]))).mono ?_; rintro e w7 ⟨rfl, hL7⟩; rw [HB4.out]; have hq7 := HK7.out w7 hL7; obtain ⟨k7, cf⟩ := hq7; have hl7 := loadSaid hs k7)
          | (guard_target =~ wpList _ _ _ (_ :: _) _ _; refine wpList_loadG rfl 29 (.tmp 1) rfl (.pointer (some ⟨g, 0, none⟩)) rfl hl7 ?_)
          | (guard_target =~ wpList _ _ _ (_ :: _) _ _; refine wpList_callVG rfl (.tmp 61) #[.tmp 62] _ rfl (f := kRight s.kind) (bound := #[]) (vs := #[.agg (saidC s)]) rfl (by simp only [List.map_toArray, List.map_cons, List.map_nil]; rfl) (kRight_enters _) rfl ?_; refine (HC4.out _).mono ?_; rintro e w8 ⟨rfl, hL8⟩; refine ⟨_, rfl, ?_⟩)
          | fail)
        go_ret
        exact ⟨rfl, hb5.trans (((HL6.out.step hL7).step hL8).below.mono hb5.size)⟩
end Go.Proofs.YtcajhdmppfiaeaaGreat
namespace Go.Proofs.YtcajhdmppfiaeaaGreat
open Go.RowKit Ms
theorem IsWr.apart {w : World} {gw : Nat} {r : Option Nat} {l : List UInt8} (h : IsWr w gw r l) {b : Nat} {T : TypeId} {cs : Array Value} (hr : Row w b T cs) (h1 : T ≠ 125) (h2 : T ≠ 5) : b ≠ gw ∧ some b ≠ r := by
  obtain ⟨v, hrow, hown, hv, hne⟩ := h
  refine ⟨fun e => ?_, fun e => ?_⟩
  · subst e; exact h1 (Row.type hr hrow)
  · subst e
    rcases hown.2 with ⟨e, _⟩ | ⟨g', cap, cur, e, _, hh, _⟩
    · rw [e] at hv; cases hv
    · rw [e] at hv
      injection hv with hv
      subst hv
      exact h2 (Row.type hr hh)
theorem Row.wrote {w w' : World} {gw : Nat} {r r' : Option Nat} {l : List UInt8} (hw : IsWr w gw r l) (h : Wrote w w' gw r r') {b : Nat} {T : TypeId} {cs : Array Value} (hr : Row w b T cs) (h1 : T ≠ 125) (h2 : T ≠ 5) : Row w' b T cs := by
  obtain ⟨a1, a2⟩ := hw.apart hr h1 h2
  exact hr.same h.1 ⟨hr.lt, a1, a2⟩
theorem KT.wrote {w w' : World} {gw : Nat} {r r' : Option Nat} {l : List UInt8} (hw : IsWr w gw r l) (h : Wrote w w' gw r r') : KT w w' := fun b T cs ht hr => Row.wrote hw h hr (by rintro rfl; revert ht; decide) (by rintro rfl; revert ht; decide)
theorem below_wrote {B : Nat} {w0 w w' : World} {gw : Nat} {r r' : Option Nat} (hb : Below B w0 w) (hB : B ≤ w.heap.size) (hg : B ≤ gw) (hr : ∀ k, r = some k → B ≤ k) (h : Wrote w w' gw r r') : Below B w0 w' ∧ ∀ k, r' = some k → B ≤ k :=
  ⟨hb.trans (Same.below (h.1.mono fun k hk => ⟨Nat.lt_of_lt_of_le hk hB, by omega, fun e => by have := hr k e.symm; omega⟩)), fun k e => (h.2 k e).elim (fun h => hr k h) (fun h => Nat.le_trans hB h)⟩
namespace Ms
theorem right_facts {s : Said} (h : Ms.right s = true) : (1 ≤ s.kind ∧ s.kind ≤ 14) ∧ zeroed (flds s.kind) s = blank s.kind ∧ (0 ≤ s.id ∧ s.id ≤ 2147483647) ∧ (0 ≤ s.number ∧ s.number ≤ 2147483647) ∧ (0 ≤ s.index ∧ s.index ≤ 2147483647) ∧ (0 ≤ s.expiry ∧ s.expiry ≤ 2147483647) ∧ (0 ≤ s.amount ∧ s.amount ≤ 1125899906842624) ∧ special s = true := by
  unfold Ms.right isKind within amt at h
  simp only [Bool.and_eq_true, decide_eq_true_eq] at h
  obtain ⟨⟨⟨⟨⟨h1, h2⟩, hz⟩, ⟨⟨⟨⟨i1, i2⟩, ⟨n1, n2⟩⟩, ⟨x1, x2⟩⟩, ⟨e1, e2⟩⟩⟩, ⟨a1, a2⟩⟩, hsp⟩ := h
  exact ⟨⟨h1, h2⟩, hz, ⟨i1, i2⟩, ⟨n1, n2⟩, ⟨x1, x2⟩, ⟨e1, e2⟩, ⟨a1, a2⟩, hsp⟩
theorem special_1 {s : Said} (hk : s.kind = 1) (h : special s = true) : 1000 ≤ s.cap ∧ s.cap ≤ 1125899906842624 ∧ 1 ≤ s.dust ∧ s.dust ≤ 500 ∧ 0 ≤ s.fee ∧ s.fee ≤ 400 ∧ 1 ≤ s.delay ∧ s.delay ≤ 1000 ∧ 0 ≤ s.reserve ∧ s.reserve ≤ s.cap / 10 ∧ s.amount ≤ s.cap - s.fee - s.reserve ∧ 0 ≤ s.tix ∧ s.tix ≤ 23 := by
  unfold special termsB at h
  rw [if_pos hk] at h
  simp only [Bool.and_eq_true, decide_eq_true_eq] at h
  obtain ⟨⟨⟨⟨⟨⟨⟨⟨⟨⟨⟨a, b⟩, c⟩, d⟩, e⟩, f⟩, g⟩, i⟩, j⟩, k⟩, l, m⟩, n⟩ := h
  exact ⟨c, d, e, f, g, i, j, k, l, m, n, a, b⟩
theorem special_c {s : Said} (hk : s.kind = 8 ∨ s.kind = 14) (h : special s = true) : 1 ≤ s.code ∧ s.code ≤ 999 := by
  unfold special at h
  rw [if_neg (by omega), if_neg (by omega), if_neg (by omega), if_pos hk] at h
  simpa using h
theorem special_6 {s : Said} (hk : s.kind = 6) (h : special s = true) : s.route.length ≤ 512 := by
  unfold special at h
  rw [if_neg (by omega), if_neg (by omega), if_pos hk] at h
  simp only [Bool.and_eq_true, decide_eq_true_eq] at h
  exact h.2
theorem right_lay {s : Said} (h : Ms.right s = true) : ∀ f ∈ flds s.kind, layOk s f := by
  obtain ⟨⟨h1, h2⟩, hz, ⟨i1, i2⟩, ⟨n1, n2⟩, ⟨x1, x2⟩, ⟨e1, e2⟩, ⟨a1, a2⟩, hsp⟩ := right_facts h
  by_cases hk1 : s.kind = 1
  · have := special_1 hk1 hsp
    rw [hk1]
    intro f hf
    have hf' : f ∈ (flds 1) := hf
    simp only [flds, if_true, List.mem_cons, List.not_mem_nil, or_false, Int.reduceEq, if_false] at hf'
    rcases hf' with rfl | rfl | rfl | rfl | rfl | rfl | rfl | rfl | rfl
    all_goals first | trivial | (show 0 ≤ s.n _ ∧ s.n _ ≤ _; simp only [Said.n]; omega) | (show s.route.length ≤ _; omega)
  by_cases hk2 : s.kind = 2
  · skip
    rw [hk2]
    intro f hf
    have hf' : f ∈ (flds 2) := hf
    simp only [flds, if_true, List.mem_cons, List.not_mem_nil, or_false, Int.reduceEq, if_false] at hf'
    rcases hf' with rfl | rfl | rfl
    all_goals first | trivial | (show 0 ≤ s.n _ ∧ s.n _ ≤ _; simp only [Said.n]; omega) | (show s.route.length ≤ _; omega)
  by_cases hk3 : s.kind = 3
  · skip
    rw [hk3]
    intro f hf
    have hf' : f ∈ (flds 3) := hf
    simp only [flds, if_true, List.mem_cons, List.not_mem_nil, or_false, Int.reduceEq, if_false] at hf'
    rcases hf' with rfl | rfl | rfl
    all_goals first | trivial | (show 0 ≤ s.n _ ∧ s.n _ ≤ _; simp only [Said.n]; omega) | (show s.route.length ≤ _; omega)
  by_cases hk4 : s.kind = 4
  · skip
    rw [hk4]
    intro f hf
    have hf' : f ∈ (flds 4) := hf
    simp only [flds, if_true, List.mem_cons, List.not_mem_nil, or_false, Int.reduceEq, if_false] at hf'
    rcases hf' with rfl
    all_goals first | trivial | (show 0 ≤ s.n _ ∧ s.n _ ≤ _; simp only [Said.n]; omega) | (show s.route.length ≤ _; omega)
  by_cases hk5 : s.kind = 5
  · skip
    rw [hk5]
    intro f hf
    have hf' : f ∈ (flds 5) := hf
    simp only [flds, if_true, List.mem_cons, List.not_mem_nil, or_false, Int.reduceEq, if_false] at hf'
  by_cases hk6 : s.kind = 6
  · have := special_6 hk6 hsp
    rw [hk6]
    intro f hf
    have hf' : f ∈ (flds 6) := hf
    simp only [flds, if_true, List.mem_cons, List.not_mem_nil, or_false, Int.reduceEq, if_false] at hf'
    rcases hf' with rfl | rfl | rfl | rfl | rfl
    all_goals first | trivial | (show 0 ≤ s.n _ ∧ s.n _ ≤ _; simp only [Said.n]; omega) | (show s.route.length ≤ _; omega)
  by_cases hk7 : s.kind = 7
  · skip
    rw [hk7]
    intro f hf
    have hf' : f ∈ (flds 7) := hf
    simp only [flds, if_true, List.mem_cons, List.not_mem_nil, or_false, Int.reduceEq, if_false] at hf'
    rcases hf' with rfl | rfl
    all_goals first | trivial | (show 0 ≤ s.n _ ∧ s.n _ ≤ _; simp only [Said.n]; omega) | (show s.route.length ≤ _; omega)
  by_cases hk8 : s.kind = 8
  · have := special_c (by omega) hsp
    rw [hk8]
    intro f hf
    have hf' : f ∈ (flds 8) := hf
    simp only [flds, if_true, List.mem_cons, List.not_mem_nil, or_false, Int.reduceEq, if_false] at hf'
    rcases hf' with rfl | rfl
    all_goals first | trivial | (show 0 ≤ s.n _ ∧ s.n _ ≤ _; simp only [Said.n]; omega) | (show s.route.length ≤ _; omega)
  by_cases hk9 : s.kind = 9
  · skip
    rw [hk9]
    intro f hf
    have hf' : f ∈ (flds 9) := hf
    simp only [flds, if_true, List.mem_cons, List.not_mem_nil, or_false, Int.reduceEq, if_false] at hf'
    rcases hf' with rfl | rfl
    all_goals first | trivial | (show 0 ≤ s.n _ ∧ s.n _ ≤ _; simp only [Said.n]; omega) | (show s.route.length ≤ _; omega)
  by_cases hk10 : s.kind = 10
  · skip
    rw [hk10]
    intro f hf
    have hf' : f ∈ (flds 10) := hf
    simp only [flds, if_true, List.mem_cons, List.not_mem_nil, or_false, Int.reduceEq, if_false] at hf'
    rcases hf' with rfl | rfl | rfl
    all_goals first | trivial | (show 0 ≤ s.n _ ∧ s.n _ ≤ _; simp only [Said.n]; omega) | (show s.route.length ≤ _; omega)
  by_cases hk11 : s.kind = 11
  · skip
    rw [hk11]
    intro f hf
    have hf' : f ∈ (flds 11) := hf
    simp only [flds, if_true, List.mem_cons, List.not_mem_nil, or_false, Int.reduceEq, if_false] at hf'
    rcases hf' with rfl | rfl
    all_goals first | trivial | (show 0 ≤ s.n _ ∧ s.n _ ≤ _; simp only [Said.n]; omega) | (show s.route.length ≤ _; omega)
  by_cases hk12 : s.kind = 12
  · skip
    rw [hk12]
    intro f hf
    have hf' : f ∈ (flds 12) := hf
    simp only [flds, if_true, List.mem_cons, List.not_mem_nil, or_false, Int.reduceEq, if_false] at hf'
  by_cases hk13 : s.kind = 13
  · skip
    rw [hk13]
    intro f hf
    have hf' : f ∈ (flds 13) := hf
    simp only [flds, if_true, List.mem_cons, List.not_mem_nil, or_false, Int.reduceEq, if_false] at hf'
    rcases hf' with rfl | rfl
    all_goals first | trivial | (show 0 ≤ s.n _ ∧ s.n _ ≤ _; simp only [Said.n]; omega) | (show s.route.length ≤ _; omega)
  by_cases hk14 : s.kind = 14
  · have := special_c (by omega) hsp
    rw [hk14]
    intro f hf
    have hf' : f ∈ (flds 14) := hf
    simp only [flds, if_true, List.mem_cons, List.not_mem_nil, or_false, Int.reduceEq, if_false] at hf'
    rcases hf' with rfl
    all_goals first | trivial | (show 0 ≤ s.n _ ∧ s.n _ ≤ _; simp only [Said.n]; omega) | (show s.route.length ≤ _; omega)
  omega
end Ms
end Go.Proofs.YtcajhdmppfiaeaaGreat
namespace Go.Proofs.YtcajhdmppfiaeaaGreat
open Go.RowKit Ms
def Pr.fsl (k : Int) : Pr := ⟨fun v W => ∃ A, v = .slice A (flds k).length (flds k).length ∧ RdP W A (flds k), fun _ _ _ ⟨A, e, h⟩ hL => ⟨A, e, h.m hL.m⟩⟩
theorem fieldKind2 (k : Int) (A : Option Addr) (W : World) : (Instr.field 71 (kindV k A) 2).run Tryz.prog W = .ok (.slice A (flds k).length (flds k).length) W := by
  unfold kindV
  generalize flds k = fs
  generalize kName k = nm
  cases isKind k <;> kernel_rfl
namespace Ms
def rts : Fld → Bool
  | .route => true
  | _ => false
def okF : Fld → Bool
  | .hash j => okH j
  | .num j m => decide (1 ≤ j) && decide (j ≤ 11) && decide (0 ≤ m)
  | .route => true
theorem flds_ok (k : Int) : (flds k).all okF = true ∧ (k ≠ 6 → (flds k).any rts = false) := by
  by_cases h1 : k = 1
  · subst h1; exact ⟨by decide, by decide⟩
  by_cases h2 : k = 2
  · subst h2; exact ⟨by decide, by decide⟩
  by_cases h3 : k = 3
  · subst h3; exact ⟨by decide, by decide⟩
  by_cases h4 : k = 4
  · subst h4; exact ⟨by decide, by decide⟩
  by_cases h6 : k = 6
  · subst h6; exact ⟨by decide, by intro h; exact absurd rfl h⟩
  by_cases h7 : k = 7
  · subst h7; exact ⟨by decide, by decide⟩
  by_cases h8 : k = 8
  · subst h8; exact ⟨by decide, by decide⟩
  by_cases h9 : k = 9
  · subst h9; exact ⟨by decide, by decide⟩
  by_cases h10 : k = 10
  · subst h10; exact ⟨by decide, by decide⟩
  by_cases h11 : k = 11
  · subst h11; exact ⟨by decide, by decide⟩
  by_cases h13 : k = 13
  · subst h13; exact ⟨by decide, by decide⟩
  by_cases h14 : k = 14
  · subst h14; exact ⟨by decide, by decide⟩
  have e : flds k = [] := by
    unfold flds
    rw [if_neg h1, if_neg h2, if_neg h3, if_neg h4, if_neg h6, if_neg h7, if_neg h8, if_neg h9, if_neg h10, if_neg h11, if_neg h13, if_neg h14]
  rw [e]
  exact ⟨rfl, fun _ => rfl⟩
theorem flds_hash (k : Int) : ∀ f ∈ flds k, ∀ j, f = .hash j → j < 9 := fun f hf j e => by
  have := List.all_eq_true.1 (flds_ok k).1 f hf
  subst e
  exact okH_lt this
theorem laid_snoc (l : List Fld) (f : Fld) (s : Said) : laid (l ++ [f]) s = laid l s ++ lay s f := by simp [laid]
theorem lay_le {s : Said} (hs : s.wf) {f : Fld} (hr : s.route.length ≤ 512) (hj : ∀ j, f = .hash j → j < 9) : (lay s f).length ≤ 521 := by
  cases f with
  | num j m => have := Wr.bytes_le (s.n j).toNat; simp only [lay]; omega
  | hash j => have := hs j (hj j rfl); simp only [lay]; omega
  | route => have := Wr.bytes_le s.route.length; simp only [lay, List.length_append]; omega
theorem laid_le {s : Said} (hs : s.wf) (hr : s.route.length ≤ 512) : ∀ l : List Fld, (∀ f ∈ l, ∀ j, f = .hash j → j < 9) → (laid l s).length ≤ 521 * l.length
  | [], _ => by simp [laid]
  | f :: l, h => by
    have h1 := lay_le hs hr (h f List.mem_cons_self)
    have h2 := laid_le hs hr l fun g hg => h g (List.mem_cons_of_mem _ hg)
    unfold laid at *
    simp only [List.map_cons, List.flatten_cons, List.length_append, List.length_cons]
    omega
theorem right_route {s : Said} (h : Ms.right s = true) : s.route.length ≤ 512 := by
  obtain ⟨⟨h1, h2⟩, hz, _, _, _, _, _, hsp⟩ := right_facts h
  by_cases h6 : s.kind = 6
  · exact special_6 h6 hsp
  · have hr : (zeroed (flds s.kind) s).route = s.route := by
      have key : ∀ (l : List Fld) (s : Said), Fld.route ∉ l → (zeroed l s).route = s.route := by
        intro l
        induction l with
        | nil => intro s _; rfl
        | cons f l ih =>
          intro s hf
          show (zeroed l (zero1 s f)).route = s.route
          rw [ih _ (fun h => hf (List.mem_cons_of_mem _ h))]
          cases f with
          | num j m => rcases j with _ | _ | _ | _ | _ | _ | _ | _ | _ | _ | _ | _ | j <;> rfl
          | hash j => rcases j with _ | _ | _ | _ | _ | _ | _ | _ | _ | j <;> rfl
          | route => exact absurd List.mem_cons_self hf
      refine key _ s ?_
      intro hm
      have := (flds_ok s.kind).2 h6
      rw [List.any_eq_false] at this
      exact this _ hm rfl
    rw [hz] at hr
    rw [← hr]
    exact Nat.zero_le _
end Ms
theorem mbody_no (s : Said) (hs : s.wf) (hm : s.route.length ≤ 9223372036854775807) (w : World) (hr : Ms.right s = false) : Calls Tryz.prog 10 #[.agg (saidC s)] w fun e w' => e = .returned (.tuple #[.slice none 0 0, .int .i64 2]) ∧ Below w.heap.size w w' := by
  have k1 := Row.new w 29 (saidC s)
  have hb := below_new w (.cells (saidC s) 29)
  have hbx := boxSaid hs w
  have he : bodyE s = 2 := by unfold bodyE; rw [hr]; rfl
  go_enter Tryz.func10, Tryz.ntmps10
  go_upto_region 1 with fail
  obtain ⟨g, hg⟩ : ∃ q, q = w.heap.size := ⟨_, rfl⟩
  rw [← hg] at k1 ⊢
  clear hbx hg
  generalize w.alloc (.cells (saidC s) 29) = w1 at *
  have hld := loadSaid hs k1
  have hck := mcheck_any s hs hm w1
  rw [he] at hck
  have HB := Lib.hid hb
  clear hb he hr k1
  refine wp_region_lit ?_
  refine wpList_load rfl 29 (.tmp 1) rfl (.pointer (some ⟨g, 0, none⟩)) rfl hld ?_
  go_wp2_with (first
    | (go_at_call 13; refine hck.mono ?_; clear hck; rintro e w2 ⟨rfl, hL2⟩)
    | fail)
  go_ret2
  exact ⟨rfl, HB.out.trans (hL2.below.mono HB.out.size)⟩
end Go.Proofs.YtcajhdmppfiaeaaGreat
namespace Go.Proofs.YtcajhdmppfiaeaaGreat
open Go.RowKit Ms
structure LLoop (w wl : World) (gw g : Nat) (fs : List Fld) (s : Said) (k : Nat) (wr : World) : Prop where
  wrr : ∃ r, IsWr wr gw r (Wr.bytes s.kind.toNat ++ Ms.laid (fs.take k) s) ∧ ∀ k, r = some k → w.heap.size ≤ k
  row : Row wr g 29 (saidC s)
  kt : KT wl wr
  below : Below w.heap.size w wr
set_option maxRecDepth 100000 in
set_option maxHeartbeats 4000000 in
theorem mbody_yes (s : Said) (hs : s.wf) (w : World) (hr : Ms.right s = true) : Calls Tryz.prog 10 #[.agg (saidC s)] w fun e w' => ∃ v, e = .returned (.tuple #[v, .int .i64 0]) ∧ Own 5 w' w.heap.size v (body s) ∧ Below w.heap.size w w' := by
  have k1 := Row.new w 29 (saidC s)
  have hb := below_new w (.cells (saidC s) 29)
  have hbx := boxSaid hs w
  have he : bodyE s = 0 := by unfold bodyE; rw [hr]; rfl
  have hro := right_route hr
  obtain ⟨hkk, _⟩ := right_facts hr
  have HLAY := Lib.hid (right_lay hr)
  obtain ⟨bd, hbd⟩ : ∃ l, body s = l := ⟨_, rfl⟩
  rw [hbd]
  have HBD := Lib.hid hbd
  clear hbd
  go_enter Tryz.func10, Tryz.ntmps10
  go_upto_region 1 with fail
  obtain ⟨g, hg⟩ : ∃ q, q = w.heap.size := ⟨_, rfl⟩
  rw [← hg] at k1 ⊢
  have hgw : w.heap.size ≤ g := by rw [hg]; exact Nat.le_refl _
  clear hbx hg
  generalize w.alloc (.cells (saidC s) 29) = w1 at *
  have hld := loadSaid hs k1
  have hck := mcheck_any s hs (by omega) w1
  rw [he] at hck
  have HB := Lib.hid hb
  clear hb he hr
  refine wp_region_lit ?_
  refine wpList_load rfl 29 (.tmp 1) rfl (.pointer (some ⟨g, 0, none⟩)) rfl hld ?_
  clear hld
  go_upto_region 4 with (first
    | (go_at_call 13; refine hck.mono ?_; clear hck; rintro e w2 ⟨rfl, hL2⟩)
    | fail)
  have k2 := k1.later hL2
  have hb2 : Below w.heap.size w w2 := HB.out.trans (hL2.below.mono HB.out.size)
  clear k1 HB hL2
  have hnew := new_any w2
  have HNEW := Lib.hid hnew
  clear hnew
  go_upto_region 5 with (first
    | (go_at_call 24; refine HNEW.out.mono ?_; rintro e w3 ⟨rfl, hwr, hL3, hlt3⟩)
    | fail)
  have k3 := k2.later hL3
  have hb3 : Below w.heap.size w w3 := hb2.trans (hL3.below.mono hb2.size)
  have hg2 := k2.lt
  obtain ⟨gw, hgw3⟩ : ∃ q, q = w2.heap.size := ⟨_, rfl⟩
  have hgwB : w.heap.size ≤ gw := by rw [hgw3]; exact hb2.size
  rw [← hgw3] at hwr hlt3 hg2 ⊢
  clear HNEW hL3 k2 hb2 hgw3
  obtain ⟨c, hcn⟩ : ∃ c : Nat, s.kind = (c : Int) := ⟨s.kind.toNat, by omega⟩
  have c0 : w3.cell? ⟨g, 0, none⟩ = some (.int .i64 (c : Int)) := (k3.cell 0).trans ((saidC_kind hs).trans (by rw [hcn]))
  have hL : Later w3 (w3.alloc (.cells #[numV (c : Int)] 2)) := (Later.refl w3).alloc _
  have hnum := wNumber_any gw none [] (some ⟨w3.heap.size, 0, none⟩) 1 1 [(c : Int)] _ rfl (by decide) (by decide) (RdV.row (Row.new w3 2 #[numV (c : Int)])) (fun b o e _ => by injection e with e; injection e with e _; exact ⟨by omega, by simp⟩) (hwr.later hL)
  have hnw : [(c : Int)].any Wr.wrong = false := by
    simp [Wr.wrong]
    omega
  have hnb : [] ++ Wr.nums [(c : Int)] = Wr.bytes s.kind.toNat := by rw [hcn]; simp [Wr.nums, Wr.nb_nat]
  rw [hnb] at hnum
  have k4 := k3.later hL
  have hb4 : Below w.heap.size w (w3.alloc (.cells #[numV (c : Int)] 2)) := hb3.trans (hL.below.mono hb3.size)
  have hwr4 := hwr.later hL
  have HNUM := Lib.hid hnum
  have HNW := Lib.hid hnw
  clear hnum hnw hnb hL k3 hb3 hwr
  go_upto_region 6 with (first
    | (go_at_call 25; refine HNUM.out.mono ?_; rintro e w4 (⟨h, _⟩ | ⟨_, rfl, r, hw4, hwt⟩); · (rw [HNW.out] at h; cases h))
    | fail)
  have k5 := Row.wrote hwr4 hwt k4 (by decide) (by decide)
  obtain ⟨hb5, hr5⟩ := below_wrote hb4 hb4.size hgwB (fun k e => by cases e) hwt
  clear HNUM HNW hwt hwr4 k4 hb4 c0 hlt3
  obtain ⟨kd, hkd⟩ : ∃ z, s.kind = z := ⟨_, rfl⟩
  have k5k := saidC_kind hs
  rw [hkd] at k5k hcn
  refine wp_region_list [Pr.kinds, Pr.eq (.pointer (some ⟨g, 0, none⟩)), Pr.eq (.int .i64 kd), Pr.kindv kd, Pr.fsl kd, Pr.eq (.int .i64 ((flds kd).length : Int)), Pr.eq (.int .i64 0)] (by kernel_rfl) (by kernel_rfl) (by kernel_rfl) (by kernel_rfl) ⟨?_, ?_, ?_, ?_, ?_, ?_, ?_, trivial⟩ ?_
  · intro ac W hL he; refine stepOk_want rfl ?_; exact op_callF (vs := #[]) rfl (by simp only [List.map_toArray, List.map_nil]) (enters_of Tryz.func26 (by kernel_rfl) rfl) ((kinds_any W).mono fun e W' ⟨m, he', hk', hb', _⟩ => ⟨_, he', hb', m, rfl, hk'⟩)
  · exact fun ac W hL he => stepOk_want rfl (op_fieldAddr rfl (he.keep (.tmp 1) (by kernel_rfl)) fieldS0 rfl)
  · exact fun ac W hL he => stepOk_want rfl (op_load rfl (he.get 1 20 (by kernel_rfl) rfl) (loadKindF (((k5.later hL).cell 0).trans k5k)) rfl)
  · intro ac W hL he; refine stepOk_want rfl ?_; obtain ⟨m, e11, hK⟩ : ∃ m, ac.eval (.tmp 19) = .map (some m) ∧ KindsAt W m := he.get 0 19 (by kernel_rfl) rfl; have e13 : ac.eval (.tmp 21) = .int .i64 kd := he.get 2 21 (by kernel_rfl) rfl; obtain ⟨A, hP, _, hr⟩ := kinds_look hK kd; exact op_lookup rfl e11 e13 (hr W rfl) ⟨A, rfl, hP⟩
  · intro ac W hL he; refine stepOk_want rfl ?_; obtain ⟨A, e22, hP⟩ : ∃ A, ac.eval (.tmp 22) = kindV kd A ∧ RdP W A (flds kd) := he.get 3 22 (by kernel_rfl) rfl; exact op_field rfl e22 (fieldKind2 kd A W) ⟨A, rfl, hP⟩
  · intro ac W hL he; refine stepOk_want rfl ?_; obtain ⟨A, e23, hP⟩ : ∃ A, ac.eval (.tmp 23) = .slice A (flds kd).length (flds kd).length ∧ RdP W A (flds kd) := he.get 4 23 (by kernel_rfl) rfl; exact op_len Tryz.underlying69 rfl e23 rfl
  · exact fun ac W hL he => stepOk_want rfl (op_move rfl rfl)
  intro xs W hL hx
  obtain ⟨A, v4, hP⟩ : ∃ A, xs 4 = .slice A (flds kd).length (flds kd).length ∧ RdP W A (flds kd) := hx 4 (by decide)
  have v5 : xs 5 = .int .i64 ((flds kd).length : Int) := hx 5 (by decide)
  have v6 : xs 6 = .int .i64 0 := hx 6 (by decide)
  simp only [putL, Nat.reduceAdd, Act.put, List.setIfInBounds_toArray, List.set_cons_succ, List.set_cons_zero]
  rw [v4, v5, v6]
  have hkW := k5.later hL
  have hwW := hw4.later hL
  have hbW := hb5.trans (hL.below.mono hb5.size)
  clear hx v4 v5 v6 k5 hw4 hb5 hL k5k
  generalize xs 0 = y0
  generalize xs 1 = y1
  generalize xs 2 = y2
  generalize xs 3 = y3
  rw [hkd] at HLAY
  obtain ⟨fs, hfs⟩ : ∃ fs, flds kd = fs := ⟨_, rfl⟩
  have hbody : body s = Wr.bytes s.kind.toNat ++ Ms.laid fs s := by unfold body; rw [hkd, hfs]
  have hok := (flds_ok kd).1
  have hfh := flds_hash kd
  have hfl := flds_len kd
  rw [hfs] at hP HLAY hok hfh hfl ⊢
  have HBODY := Lib.hid hbody
  have HFH := Lib.hid hfh
  clear hbody hfs hfh hok
  obtain ⟨n, hn⟩ : ∃ n, fs.length = n := ⟨_, rfl⟩
  rw [hn] at hfl ⊢
  have HN := Lib.hid hn
  have HKD := Lib.hid hkd
  clear hn hkd
  have hL0 : LLoop w W gw g fs s 0 W := ⟨⟨r, by simpa [Ms.laid] using hwW, hr5⟩, hkW, KT.refl _, hbW⟩
  have HP := Lib.hid hP
  clear hP hkW hwW hbW hr5
  go_wp2_with fail
  go_loopw [25] (fun t wr => ∃ k : Nat, k ≤ n ∧ t = .int .i64 (k : Int) ∧ LLoop w W gw g fs s k wr) (fun t _ => n - (intOf t).toNat)
  case atStart => exact ⟨0, by omega, rfl, hL0⟩
  case round =>
    obtain ⟨k, hk, rfl, hz⟩ := hrel
    obtain ⟨⟨r1, hw1, hr1⟩, hrow, hkt, hbel⟩ := hz
    by_cases hlt : k < n
    · have hd : decide ((k : Int) < (n : Int)) = true := decide_eq_true (by omega)
      have hd' : decide (k < n) = true := decide_eq_true hlt
      have hkl : k < fs.length := by rw [HN.out]; exact hlt
      obtain ⟨bP, pc, hA, hpc, hldp⟩ := (HP.out.kt hkt).part hkl
      subst hA
      have hsn : fs.take (k + 1) = fs.take k ++ [fs[k]] := List.take_succ_eq_append_getElem hkl
      have hlo := HLAY.out _ (List.getElem_mem hkl)
      have hll := laid_le hs hro (fs.take k) (fun f hf => HFH.out f (List.mem_of_mem_take hf))
      have hb9 := Wr.bytes_le s.kind.toNat
      have hl0 : (Wr.bytes s.kind.toNat ++ Ms.laid (fs.take k) s).length ≤ 100000000 := by
        rw [List.length_append]
        rw [List.length_take] at hll
        omega
      have HSN := Lib.hid hsn
      have HL0 := Lib.hid hl0
      clear hsn hl0 hll hb9
      generalize fs[k] = f at *
      obtain ⟨w5, hst, hpa, hL5⟩ := newPart wr hpc
      have HLP := Lib.hid hldp
      clear hldp
      obtain ⟨cs4, hr4, hpc4⟩ := hpa
      have hrow5 := hrow.later hL5
      have hw5 := hw1.later hL5
      obtain ⟨F, caps, hF, hE, hcall⟩ := lay_any f cs4 gw r1 _ g s w5 hs hpc4 hlo HL0.out hw5 hrow5
      have c27 : w5.cell? ⟨wr.heap.size, 0, none⟩ = some (.func (.func F) #[] caps) := (hr4.cell 0).trans hF
      have HCALL := Lib.hid hcall
      have HE := Lib.hid hE
      have hbel5 : Below w.heap.size w w5 := hbel.trans (hL5.below.mono hbel.size)
      have hkt5 : KT W w5 := hkt.trans (fun b T cs _ h => h.later hL5)
      have HKT5 := Lib.hid hkt5
      clear hcall hE hF hpc4 hr4 hL5 hrow hpc hkt hbel hw1 hkt5
      have hldp := HLP.out
      go_upto_region 9 with (first
        | (guard_target =~ wpList _ _ _ (_ :: _) _ _; refine wpList_load rfl 78 (.tmp 27) rfl (.pointer (some ⟨bP, k * 3, none⟩)) rfl hldp ?_)
        | (with_reducible refine wpList_alloc rfl 78 rfl (allocPart _) ?_)
        | (guard_target =~ wpList _ _ _ (_ :: _) _ _; refine wpList_store rfl 78 (.tmp 7) (.tmp 28) rfl (.pointer (some ⟨wr.heap.size, 0, none⟩)) (.agg pc) rfl rfl hst ?_)
        | fail)
      clear hldp hst
      go_wp2_with (first
        | (guard_target =~ wpList _ _ _ (_ :: _) _ _; refine wpList_callV rfl (.tmp 30) #[.tmp 31, .tmp 1] _ rfl (f := F) (bound := caps) (vs := #[.pointer (some ⟨gw, 0, none⟩), .pointer (some ⟨g, 0, none⟩)]) rfl (by simp only [List.map_toArray, List.map_cons, List.map_nil]; rfl) HE.out rfl ?_; refine HCALL.out.mono ?_; rintro e w6 ⟨rfl, r', hw6, hwt⟩; refine .inl ⟨_, rfl, ?_⟩)
        | fail)
      go_roundw
      case rel =>
        obtain ⟨hb6, hr6⟩ := below_wrote hbel5 hbel5.size hgwB hr1 hwt
        exact ⟨k + 1, by omega, by go_num, ⟨⟨r', by rw [HSN.out, laid_snoc, ← List.append_assoc]; exact hw6, hr6⟩, Row.wrote hw5 hwt hrow5 (by decide) (by decide), HKT5.out.trans (KT.wrote hw5 hwt), hb6⟩⟩
      case measure => simp [intOf]; omega
    · obtain rfl : k = n := by omega
      have hd : decide ((k : Int) < (k : Int)) = false := decide_eq_false (by omega)
      have hd' : decide (k < k) = false := decide_eq_false (by omega)
      rw [List.take_of_length_le (by rw [HN.out]; exact Nat.le_refl _), ← HBODY.out, HBD.out] at hw1
      have hln : bd.length ≤ 140737488355328 := by
        rw [← HBD.out, HBODY.out, List.length_append]
        have h1 := Wr.bytes_le s.kind.toNat
        have h2 := laid_le hs hro fs HFH.out
        have h3 := HN.out
        omega
      have hall := all_any gw r1 bd wr hln hw1
      have HALL := Lib.hid hall
      clear hall hln
      go_wp2_with (first
        | (go_at_call 27; refine HALL.out.mono ?_; rintro e w6 ⟨v, rfl, hown, hL6⟩)
        | fail)
      go_ret2
      exact ⟨v, rfl, hown.mono hbel.size, hbel.trans (hL6.below.mono hbel.size)⟩
theorem mbody_any (s : Said) (hs : s.wf) (hm : s.route.length ≤ 9223372036854775807) (w : World) : Calls Tryz.prog 10 #[.agg (saidC s)] w fun e w' => ∃ v, e = .returned (.tuple #[v, .int .i64 (bodyE s)]) ∧ Own 5 w' w.heap.size v (bodyR s) ∧ Below w.heap.size w w' := by
  unfold bodyE bodyR
  cases h : Ms.right s
  · exact (mbody_no s hs hm w h).mono fun e w' ⟨h1, h2⟩ => ⟨_, h1, Own.nil _ _ _, h2⟩
  · exact mbody_yes s hs w h
end Go.Proofs.YtcajhdmppfiaeaaGreat
namespace Go.Proofs.YtcajhdmppfiaeaaGreat
open Go.RowKit Ms
theorem mcaught_idle (e c : Value) (w : World) :
    CallsD Tryz.prog 39 #[e, c] .returning w fun e u' w' => e = .returned (.tuple #[]) ∧ u' = .returning ∧ w' = w := by
  refine callsD_of_wpS Tryz.func39 rfl fun c₀ cs hu => ?_
  apply wpS_seq
  apply wpS_region
  simp [wpOpsS, go_sem, recoverD, hu, Tryz.ntmps39, Exit.thenS]
  refine wpS_of_wp ?_
  change Code.wp _ _ _ { tmps := #[e, c, undef, undef, .nilIface, .nilIface, undef, undef, undef, undef, undef, undef, undef, undef], defers := [] } w
  go_wp2
  exact ⟨rfl, _, by rw [← hu], _, results_none rfl _ _ _, rfl, rfl, rfl⟩
set_option maxRecDepth 100000 in
set_option maxHeartbeats 1000000 in
theorem mcaught_panicking (q : Nat) (F : FuncId) (caps : Array Value) (n x : Int) (older : List PanicEntry) (w : World) (hq : Row w q 33 #[.int .i64 x]) (R : World → World → Prop) (hen : ∀ w, (callFunc F caps).run Tryz.prog w = .ok (.enter F caps) w)
    (hcl : ∀ W, Row W q 33 #[.int .i64 n] → w.grownBy W (some q) → Calls Tryz.prog F caps W fun e W' => e = .returned (.tuple #[]) ∧ R W W') :
    CallsD Tryz.prog 39 #[.pointer (some ⟨q, 0, none⟩), .func (.func F) #[] caps] (.panicking ({ v := .iface 33 (.int .i64 n), recovered := false } :: older)) w fun e u' w' =>
      e = .returned (.tuple #[]) ∧ u' = .panicking ({ v := .iface 33 (.int .i64 n), recovered := true } :: older) ∧ ∃ W, Row W q 33 #[.int .i64 n] ∧ w.grownBy W (some q) ∧ R W w' := by
  refine callsD_of_wpS Tryz.func39 rfl fun c₀ cs hu => ?_
  have hset := hq.set 0 (.int .i64 n)
  have hgr := grown_set w q 0 (.int .i64 n)
  have hcq := hcl _ hset hgr
  have hc : w.cell? ⟨q, 0, none⟩ = some (.int .i64 x) := (hq.cell 0).trans rfl
  have hf : w.frozen? ⟨q, 0, none⟩ = false := hq.frozen 0
  have HS := Lib.hid hset
  have HG := Lib.hid hgr
  have HC := Lib.hid hcq
  clear hcl hset hgr hcq hq
  have HE := Lib.hid hc
  have HF := Lib.hid hf
  clear hc hf
  apply wpS_seq
  apply wpS_region
  simp [wpOpsS, go_sem, recoverD, hu, Tryz.ntmps39, Exit.thenS]
  refine wpS_of_wp ?_
  change Code.wp _ _ _ { tmps := #[.pointer (some ⟨q, 0, none⟩), .func (.func F) #[] caps, undef, undef, .iface 33 (.int .i64 n), .iface 33 (.int .i64 n), undef, undef, undef, undef, undef, undef, undef, undef], defers := [] } w
  have hc := HE.out
  have hf := HF.out
  have hta : ∀ w : World, (Instr.typeAssert (.iface 33 (.int .i64 n)) 20 33 false).run Tryz.prog w = .ok (.int .i64 n) w := fun w => by kernel_rfl
  go_upto_region 3 with fail
  go_wp2_with fail
  refine HC.out.mono ?_
  rintro e w2 ⟨rfl, hR⟩
  go_wp2_with fail
  exact ⟨rfl, _, rfl, _, results_none rfl _ _ _, rfl, rfl, _, HS.out, HG.out, hR⟩
theorem buildSaid0 (w : World) : (Instr.build 29 #[]).run Tryz.prog w = .ok (.agg (saidC (Ms.blank 0))) w := by kernel_rfl
set_option maxRecDepth 100000 in
theorem parseFn_any (q : Nat) (s : Said) (hs : s.wf) (w : World) (hr : Row w q 29 (saidC s)) :
    Calls Tryz.prog 40 #[.pointer (some ⟨q, 0, none⟩)] w fun e w' => e = .returned (.tuple #[]) ∧ Row w' q 29 (saidC (Ms.blank 0)) ∧ w.grownBy w' (some q) := by
  obtain ⟨w', hst, h1, h2⟩ := storeSaid hs (blank_wf 0) hr
  have H1 := Lib.hid h1
  have H2 := Lib.hid h2
  clear h1 h2 hr
  go_enter Tryz.func40, Tryz.ntmps40
  go_wp2_with (first
    | (guard_target =~ wpList _ _ _ (_ :: _) _ _; refine wpList_build rfl 29 _ rfl #[] rfl (buildSaid0 _) ?_)
    | (guard_target =~ wpList _ _ _ (_ :: _) _ _; refine wpList_store rfl 29 (.tmp 0) (.tmp 1) rfl (.pointer (some ⟨q, 0, none⟩)) (.agg (saidC (Ms.blank 0))) rfl rfl hst ?_)
    | fail)
  go_end0
  exact ⟨rfl, H1.out, H2.out⟩
theorem parse_caught (q q3 : Nat) (s : Said) (hs : s.wf) (x : Int) (w W : World) (k2 : Row W q 29 (saidC s)) (k3 : Row W q3 33 #[.int .i64 x]) (hbW : Below w.heap.size w W) (hq : w.heap.size ≤ q) (hq3 : w.heap.size ≤ q3) :
    CallsD Tryz.prog 39 #[.pointer (some ⟨q3, 0, none⟩), .func (.func 40) #[] #[.pointer (some ⟨q, 0, none⟩)]] (.panicking (gaveUp 210)) W fun e u' w' =>
      e = .returned (.tuple #[]) ∧ u' = .panicking ({ v := .iface 33 (.int .i64 210), recovered := true } :: []) ∧ Row w' q 29 (saidC (Ms.blank 0)) ∧ w'.cell? ⟨q3, 0, none⟩ = some (.int .i64 210) ∧ Below w.heap.size w w' := by
  have hne : q ≠ q3 := fun e => by subst e; exact absurd (Row.type k2 k3) (by decide)
  refine (mcaught_panicking q3 40 #[.pointer (some ⟨q, 0, none⟩)] 210 x [] W k3 (fun X X' => Row X' q 29 (saidC (Ms.blank 0)) ∧ X.grownBy X' (some q)) (enters_of Tryz.func40 (by kernel_rfl) rfl _) (fun X hX hg => (parseFn_any q s hs X (k2.grown hg (fun e => hne (Option.some.inj e)))))).mono ?_
  rintro e u' w' ⟨rfl, rfl, X, hk, hg, hp, hg2⟩
  have hb1 : Below w.heap.size w X := hbW.grown hg hbW.size (fun j e => by cases e; exact hq3)
  exact ⟨rfl, rfl, hp, ((hk.grown hg2 (fun e => hne (Option.some.inj e).symm)).cell 0).trans rfl, hb1.grown hg2 hb1.size (fun j e => by cases e; exact hq)⟩
theorem results_cc {P : Program} {fn : Func} {p q : Tmp} {ty t2 : TypeId} (h : fn.results = #[.cell p ty, .cell q t2]) (tmps : Array Value) (w : World) (g g2 : Nat) (t : TypeId) (cs : Array Value) (d : TypeDesc) (v : Value)
    (hp : tmps.getD p undef = .pointer (some ⟨g, 0, none⟩)) (hq : tmps.getD q undef = .pointer (some ⟨g2, 0, none⟩)) (hg : Row w g t cs)
    (hu : P.underlying ty = some d) (hd : (match d with | .struct _ | .array _ _ => true | _ => false) = true) (hi : (P.info? ty).map (·.size) = some cs.size) (h2 : (loadVar t2 ⟨g2, 0, none⟩).run P w = .ok v w) :
    (results fn tmps).run P w = .ok (.tuple #[.agg cs, v]) w := by
  have hp' : tmps[p]?.getD undef = .pointer (some ⟨g, 0, none⟩) := by simpa using hp
  have hq' : tmps[q]?.getD undef = .pointer (some ⟨g2, 0, none⟩) := by simpa using hq
  simp [results, h, hp', hq', asAddr, run_loadVar_row w g t ty cs (0, 0) d hg hu hd hi, h2]
theorem loadErr {w : World} {g : Nat} {n : Int} (h : w.cell? ⟨g, 0, none⟩ = some (.int .i64 n)) : (loadVar 33 ⟨g, 0, none⟩).run Tryz.prog w = .ok (.int .i64 n) w := by
  go_simp
end Go.Proofs.YtcajhdmppfiaeaaGreat
namespace Go.Proofs.YtcajhdmppfiaeaaGreat
open Go.RowKit Ms
namespace Ms
theorem take1_bad {r : RdS} (h : r.bad = true) (f : Fld) : (take1 r f).bad = true := by
  cases f with
  | num j m => show (Wr.numR r.l r.bad m).1.2 = true; rw [h]; simp [Wr.numR]
  | hash j => show (Wr.hashR r.l r.bad).1.2 = true; rw [h]; simp [Wr.hashR]
  | route => show (Wr.textR r.l r.bad 512).1.2 = true; rw [h]; simp [Wr.textR]
theorem taken_bad : ∀ (l : List Fld) {r : RdS}, r.bad = true → (taken l r).bad = true
  | [], _, h => h
  | f :: l, r, h => taken_bad l (take1_bad h f)
theorem taken_app (l m : List Fld) (r : RdS) : taken (l ++ m) r = taken m (taken l r) := List.foldl_append
theorem taken_snoc (l : List Fld) (f : Fld) (r : RdS) : taken (l ++ [f]) r = take1 (taken l r) f := taken_app l [f] r
theorem take1_wf {r : RdS} (h : r.s.wf) (f : Fld) : (take1 r f).s.wf := by
  cases f with
  | num j m => exact Said.setN_wf h _ _
  | hash j => exact Said.setH_wf h _ _ (pad32_len _)
  | route => exact Said.setR_wf h _
theorem taken_wf : ∀ (l : List Fld) {r : RdS}, r.s.wf → (taken l r).s.wf
  | [], _, h => h
  | f :: l, r, h => taken_wf l (take1_wf h f)
theorem start_wf (b : List UInt8) : (start b).s.wf := blank_wf _
theorem final_wf (b : List UInt8) : (final b).s.wf := taken_wf _ (start_wf b)
theorem parse_wf (b : List UInt8) : (parse b).wf := by
  unfold parse
  split
  · exact final_wf b
  · exact blank_wf 0
theorem ok_bad {b : List UInt8} (h : (final b).bad = true) : okB b = false := by
  unfold okB
  rw [h]
  rfl
theorem ok_at {b : List UInt8} {fs : List Fld} (hf : flds (start b).s.kind = fs) (k : Nat) (h : (taken (fs.take k) (start b)).bad = true) : okB b = false := by
  apply ok_bad
  unfold final
  rw [hf, ← List.take_append_drop k fs, taken_app]
  exact taken_bad _ h
theorem take_pad (r : RdS) (f : Fld) (hb : r.bad = false) : r = ⟨r.l, false, r.s⟩ := by
  cases r
  simp at hb
  subst hb
  rfl
theorem route_le (r : RdS) (n : Nat) (hl : r.l.length ≤ n) (hr : r.s.route.length ≤ n) (f : Fld) : (take1 r f).l.length ≤ n ∧ (take1 r f).s.route.length ≤ n := by
  cases f with
  | num j m =>
    refine ⟨?_, ?_⟩
    · show (Wr.numR r.l r.bad m).1.1.length ≤ n
      unfold Wr.numR
      split
      · exact hl
      · split
        · exact hl
        · split
          · rw [List.length_drop]; omega
          · exact hl
    · have : (r.s.setN j (Wr.numR r.l r.bad m).2.1).route = r.s.route := by
        rcases j with _ | _ | _ | _ | _ | _ | _ | _ | _ | _ | _ | _ | j <;> rfl
      show (r.s.setN j (Wr.numR r.l r.bad m).2.1).route.length ≤ n
      rw [this]; exact hr
  | hash j =>
    refine ⟨?_, ?_⟩
    · show (Wr.hashR r.l r.bad).1.1.length ≤ n
      unfold Wr.hashR
      split
      · exact hl
      · split
        · rw [List.length_drop]; omega
        · exact hl
    · have : (r.s.setH j (pad32 (Wr.hashR r.l r.bad).2.1)).route = r.s.route := by
        rcases j with _ | _ | _ | _ | _ | _ | _ | _ | _ | j <;> rfl
      show (r.s.setH j (pad32 (Wr.hashR r.l r.bad).2.1)).route.length ≤ n
      rw [this]; exact hr
  | route =>
    refine ⟨?_, ?_⟩
    · show (Wr.textR r.l r.bad 512).1.1.length ≤ n
      unfold Wr.textR Wr.textRest
      split
      · exact hl
      · split
        · exact hl
        · split
          · rw [List.length_drop, List.length_drop]; omega
          · exact hl
    · show (Wr.textR r.l r.bad 512).2.1.length ≤ n
      unfold Wr.textR Wr.textAt
      split
      · exact Nat.zero_le _
      · split
        · exact Nat.zero_le _
        · split
          · rw [List.length_take, List.length_drop]; omega
          · exact Nat.zero_le _
theorem routes_le : ∀ (l : List Fld) (r : RdS) (n : Nat), r.l.length ≤ n → r.s.route.length ≤ n → (taken l r).s.route.length ≤ n
  | [], _, _, _, h => h
  | f :: l, r, n, h1, h2 => by
    obtain ⟨h3, h4⟩ := route_le r n h1 h2 f
    exact routes_le l _ n h3 h4
theorem final_route (b : List UInt8) : (final b).s.route.length ≤ b.length := by
  refine routes_le _ _ _ ?_ (Nat.zero_le _)
  show (Wr.numR b false 14).1.1.length ≤ b.length
  unfold Wr.numR
  split
  · exact Nat.le_refl _
  · split
    · exact Nat.le_refl _
    · split
      · rw [List.length_drop]; omega
      · exact Nat.le_refl _
theorem okF_most {f : Fld} (h : okF f = true) : mostOk f := by
  cases f with
  | num j m => simp [okF] at h; exact h.2
  | hash j => trivial
  | route => trivial
end Ms
end Go.Proofs.YtcajhdmppfiaeaaGreat
namespace Go.Proofs.YtcajhdmppfiaeaaGreat
open Go.RowKit Ms
theorem below_took {B : Nat} {w0 w w' : World} {p : Nat → Prop} (hb : Below B w0 w) (hs : Same p w w') (hp : ∀ k, k < B → p k) : Below B w0 w' := hb.trans (Same.below (hs.mono fun k h => hp k h))
theorem buildReader (gr : Nat) (w : World) : (Instr.build 96 #[(0, .pointer (some ⟨gr, 0, none⟩))]).run Tryz.prog w = .ok (.agg #[.pointer (some ⟨gr, 0, none⟩)]) w := by kernel_rfl
structure PLoop (w wl : World) (q q3 q4 gr : Nat) (A0 : Option Addr) (b : List UInt8) (R : RdS) (wr : World) : Prop where
  ok : R.bad = false
  rd : Moved wr gr A0 b R.l false
  hd : Rd wr A0 b
  row : Row wr q 29 (saidC R.s)
  k3 : Row wr q3 33 #[.int .i64 0]
  k4 : Row wr q4 96 #[.pointer (some ⟨gr, 0, none⟩)]
  kt : KT wl wr
  below : Below w.heap.size w wr
set_option maxRecDepth 100000 in
set_option maxHeartbeats 4000000 in
theorem mparse_any (A : Option Addr) (n ca : Nat) (b : List UInt8) (w : World) (hn : b.length = n) (hbn : n ≤ 140737488355328) (hr : Rd w A b) :
    Calls Tryz.prog 15 #[.slice A n ca] w fun e w' => e = .returned (.tuple #[.agg (saidC (Ms.parse b)), .int .i64 (Ms.parseE b)]) ∧ Below w.heap.size w w' := by
  refine Calls.post fun Φ HΦ => ?_
  have k2 := (Row.new w 29 (saidC (Ms.blank 0))).alloc (.cells #[.int .i64 0] 33)
  have k3 := Row.new (w.alloc (.cells (saidC (Ms.blank 0)) 29)) 33 #[.int .i64 0]
  have hb := below_new2 w (.cells (saidC (Ms.blank 0)) 29) (.cells #[.int .i64 0] 33)
  rw [World.size_alloc] at k3
  have hmf : ∀ (fn : Fn) (first cap : Array Value) (w : World), (Instr.makeFunc fn first cap).run Tryz.prog w = .ok (.func fn first cap) w := fun _ _ _ _ => rfl
  have HN := Lib.hid hn
  have HR := Lib.hid hr
  clear hn hr
  go_enter_defers Tryz.func15, Tryz.ntmps15
  go_upto_region 1 with (first
    | (with_reducible refine wpList_alloc rfl 29 rfl (allocSaid _) ?_)
    | fail)
  obtain ⟨q, hq⟩ : ∃ q, q = w.heap.size := ⟨_, rfl⟩
  obtain ⟨q3, hq3⟩ : ∃ q, q = w.heap.size + 1 := ⟨_, rfl⟩
  try simp only [World.size_alloc]
  rw [← hq3] at k3 ⊢
  rw [← hq] at k2 ⊢
  have hwq : w.heap.size ≤ q := by omega
  have hwq3 : w.heap.size ≤ q3 := by omega
  have hqq : q ≠ q3 := by omega
  clear hq hq3
  generalize (w.alloc (.cells (saidC (Ms.blank 0)) 29)).alloc (.cells #[.int .i64 0] 33) = w1 at *
  go_upto_region 2 with fail
  clear hmf
  have hrd := read_mv A n ca b w1 HN.out hbn (HR.out.later hb)
  have hq1 := k2.lt
  have hq31 := k3.lt
  go_upto_region 3 with (first
    | (go_at_call 41; refine hrd.mono ?_; clear hrd; rintro e w2 ⟨gr, A0, rfl, hmv, hd0, hA0, hgr, hb2⟩)
    | (guard_target =~ wpList _ _ _ (_ :: _) _ _; refine wpList_build rfl 96 _ rfl #[(0, .pointer (some ⟨gr, 0, none⟩))] (by simp only [List.map_toArray, List.map_cons, List.map_nil]; rfl) (buildReader _ _) ?_)
    | fail)
  have k4 := Row.new w2 96 #[.pointer (some ⟨gr, 0, none⟩)]
  have hL3 : Later w2 (w2.alloc (.cells #[.pointer (some ⟨gr, 0, none⟩)] 96)) := below_new w2 _
  have k2 := (k2.belowAll hb2).later hL3
  have k3 := (k3.belowAll hb2).later hL3
  have hbw2 : Below w.heap.size w w2 := hb.trans (hb2.mono hb.size)
  have hb3 : Below w.heap.size w (w2.alloc (.cells #[.pointer (some ⟨gr, 0, none⟩)] 96)) := hbw2.trans (hL3.below.mono hbw2.size)
  have hd3 := hd0.later hL3
  obtain ⟨D, c, hrow0, hc, hcm, hRD⟩ := hmv
  have hgr2 := hrow0.lt
  have hrow := hrow0.later hL3
  have hq2 := hb2.size
  have hA : ∀ x o, A0 = some ⟨x, o, none⟩ → b ≠ [] → x ≠ gr ∧ x ≠ q ∧ x ≠ q3 := fun x o e hne => by
    have := hA0 x o e hne
    exact ⟨this.2, by omega, by omega⟩
  obtain ⟨q4, hq4⟩ : ∃ x, x = w2.heap.size := ⟨_, rfl⟩
  rw [← hq4] at k4 hgr2 ⊢
  have hq14 : q < q4 ∧ q3 < q4 := by omega
  have hwq4 : w.heap.size ≤ q4 := by omega
  clear hb2 hd0 hb hbw2 hL3 hrow0 hA0 hq4
  generalize w2.alloc (.cells #[.pointer (some ⟨gr, 0, none⟩)] 96) = w3 at *
  have hwgr : w.heap.size ≤ gr := by omega
  have hqgr : q ≠ gr ∧ q3 ≠ gr ∧ q4 ≠ gr := ⟨by omega, by omega, by omega⟩
  have hnum := rNumber_mv gr b false 14 w3 D c hrow hc hcm (hRD w3 hd3)
  have c4 : w3.cell? ⟨q4, 0, none⟩ = some (.pointer (some ⟨gr, 0, none⟩)) := (k4.cell 0).trans rfl
  have hc3 : ∀ W, Same (fun k => k < w3.heap.size ∧ k ≠ gr) w3 W → W.cell? ⟨q3, 0, none⟩ = some (.int .i64 0) ∧ W.frozen? ⟨q3, 0, none⟩ = false := fun W hs => by
    have := k3.same hs ⟨k3.lt, hqgr.2.1⟩
    exact ⟨(this.cell 0).trans rfl, this.frozen 0⟩
  have HC3 := Lib.hid hc3
  clear hc3
  rcases Wr.numR_two b 14 (by decide) with ⟨l1, z, hz⟩ | ⟨l1, hz⟩
  rotate_left
  · rw [hz] at hnum
    have hno : Ms.parse b = Ms.blank 0 ∧ Ms.parseE b = 210 := by
      have : okB b = false := ok_bad (taken_bad _ (by show (Wr.numR b false 14).1.2 = true; rw [hz]))
      unfold Ms.parse Ms.parseE
      rw [this]
      exact ⟨rfl, rfl⟩
    have HNO0 := Lib.hid hno
    have HNUM := Lib.hid hnum
    clear hno hnum hz
    go_wp2_with (first
      | (go_at_call 42; refine HNUM.out.mono ?_; rintro e w4 ⟨hs4, rfl, hm4⟩; obtain ⟨cc, ff⟩ := HC3.out w4 hs4)
      | (go_at_call 43; refine (mmust_no _).mono ?_; rintro e w5 ⟨rfl, rfl⟩)
      | fail)
    have kF2 := (k2.same hs4 ⟨k2.lt, hqgr.1⟩).far (p := ⟨q3, 0, none⟩) hqq (.int .i64 140)
    have kF3 := (k3.same hs4 ⟨k3.lt, hqgr.2.1⟩).set 0 (.int .i64 140)
    have hbF := (below_took hb3 hs4 (fun k h => ⟨Nat.lt_of_lt_of_le h hb3.size, by omega⟩)).setCell (p := ⟨q3, 0, none⟩) hwq3 (.int .i64 140)
    have hsF := blank_wf 0
    have HNO := HNO0.out
    refine leaves_cons (f := 39) (args := #[.pointer (some ⟨q3, 0, none⟩), .func (.func 40) #[] #[.pointer (some ⟨q, 0, none⟩)]]) (by simp) (by simp [go_sem]) ?_; refine (parse_caught q q3 _ hsF _ w _ kF2 kF3 hbF hwq hwq3).mono ?_; rintro e u' w'' ⟨rfl, rfl, kQ, cE, hbG⟩; show ∃ v, _ ∧ _; exact ⟨_, results_cc rfl _ _ q q3 29 (saidC (Ms.blank 0)) _ (.int .i64 210) rfl rfl kQ Tryz.underlying29 rfl (by rw [saidC_size (blank_wf 0)]; exact infoSaid) (loadErr cE), HΦ.out _ _ ⟨by rw [HNO.1, HNO.2], hbG⟩⟩
  · rw [hz] at hnum
    have hst0 : Ms.start b = ⟨l1, false, Ms.blank z⟩ := by unfold Ms.start; rw [hz]
    have HST := Lib.hid hst0
    have HNUM := Lib.hid hnum
    clear hnum hz hst0
    go_upto_region 4 with (first
      | (go_at_call 42; refine HNUM.out.mono ?_; rintro e w4 ⟨hs4, rfl, hm4⟩; obtain ⟨cc, ff⟩ := HC3.out w4 hs4)
      | fail)
    have hm4' := Moved.trans hRD hm4
    have k2 := (k2.same hs4 ⟨k2.lt, hqgr.1⟩).far (p := ⟨q3, 0, none⟩) hqq (.int .i64 0)
    have k3 := (k3.same hs4 ⟨k3.lt, hqgr.2.1⟩).set 0 (.int .i64 0)
    have k4 := (k4.same hs4 ⟨k4.lt, hqgr.2.2⟩).far (p := ⟨q3, 0, none⟩) (by show q4 ≠ q3; omega) (.int .i64 0)
    have hb4 := (below_took hb3 hs4 (fun k h => ⟨Nat.lt_of_lt_of_le h hb3.size, by omega⟩)).setCell (p := ⟨q3, 0, none⟩) hwq3 (.int .i64 0)
    have hm5 : Moved (w4.setCell ⟨q3, 0, none⟩ (.int .i64 0)) gr A0 b l1 false := hm4'.far (p := ⟨q3, 0, none⟩) hqgr.2.1.symm _
    have hd4 : Rd w4 A0 b := hd3.same hs4 (fun x o e hne => ⟨hd3.lt e hne, (hA x o e hne).1⟩)
    have hd5 : Rd (w4.setCell ⟨q3, 0, none⟩ (.int .i64 0)) A0 b := hd4.grown (grown_set w4 q3 0 _) (fun x o e hne e2 => (hA x o e hne).2.2 (Option.some.inj e2))
    clear HNUM HC3 cc ff hs4 hm4 hm4' hb3 hrow c4 hd3 hRD hd4
    generalize w4.setCell ⟨q3, 0, none⟩ (.int .i64 0) = w5 at *
    have c3 : w5.cell? ⟨q3, 0, none⟩ = some (.int .i64 0) := (k3.cell 0).trans rfl
    go_upto_region 5 with (first
      | (go_at_call 43; refine (mmust_ok _).mono ?_; rintro e w6 ⟨rfl, rfl⟩)
      | fail)
    have c0 : w6.cell? ⟨q, 0, none⟩ = some (.int .i64 0) := (k2.cell 0).trans (saidC_kind (blank_wf 0))
    have f0 : w6.frozen? ⟨q, 0, none⟩ = false := k2.frozen 0
    go_upto_region 6 with fail
    have k2' := k2.set 0 (.int .i64 z)
    rw [saidC_setK (blank_wf 0) z] at k2'
    have k2n : Row (w6.setCell ⟨q, 0, none⟩ (.int .i64 z)) q 29 (saidC (Ms.blank z)) := k2'
    have hg6 := grown_set w6 q 0 (.int .i64 z)
    have k3 := k3.grown hg6 (fun e => hqq (Option.some.inj e).symm)
    have k4 := k4.grown hg6 (fun e => by have := Option.some.inj e; omega)
    have hb6 := hb4.setCell (p := ⟨q, 0, none⟩) hwq (.int .i64 z)
    have hm6 : Moved (w6.setCell ⟨q, 0, none⟩ (.int .i64 z)) gr A0 b l1 false := hm5.far (p := ⟨q, 0, none⟩) hqgr.1.symm _
    have hd6 : Rd (w6.setCell ⟨q, 0, none⟩ (.int .i64 z)) A0 b := hd5.grown hg6 (fun x o e hne e2 => (hA x o e hne).2.1 (Option.some.inj e2))
    clear k2' c0 f0 c3 hg6 hb4 hm5 hd5
    generalize w6.setCell ⟨q, 0, none⟩ (.int .i64 z) = w7 at *
    have ck7 : ∀ W, Later w7 W → W.cell? ⟨q, 0, none⟩ = some (.int .i64 z) := fun W hL => ((k2n.later hL).cell 0).trans (saidC_kind (blank_wf z))
    refine wp_region_list [Pr.kinds, Pr.eq (.pointer (some ⟨q, 0, none⟩)), Pr.eq (.int .i64 z), Pr.kindv z, Pr.fsl z, Pr.eq (.int .i64 ((flds z).length : Int)), Pr.eq (.int .i64 0)] (by kernel_rfl) (by kernel_rfl) (by kernel_rfl) (by kernel_rfl) ⟨?_, ?_, ?_, ?_, ?_, ?_, ?_, trivial⟩ ?_
    · intro ac W hL he; refine stepOk_want rfl ?_; exact op_callF (vs := #[]) rfl (by simp only [List.map_toArray, List.map_nil]) (enters_of Tryz.func26 (by kernel_rfl) rfl) ((kinds_any W).mono fun e W' ⟨m, he', hk', hb', _⟩ => ⟨_, he', hb', m, rfl, hk'⟩)
    · exact fun ac W hL he => stepOk_want rfl (op_fieldAddr rfl (he.keep (.tmp 2) (by kernel_rfl)) fieldS0 rfl)
    · exact fun ac W hL he => stepOk_want rfl (op_load rfl (he.get 1 24 (by kernel_rfl) rfl) (loadKindF (ck7 W hL)) rfl)
    · intro ac W hL he; refine stepOk_want rfl ?_; obtain ⟨m, e11, hK⟩ : ∃ m, ac.eval (.tmp 23) = .map (some m) ∧ KindsAt W m := he.get 0 23 (by kernel_rfl) rfl; have e13 : ac.eval (.tmp 25) = .int .i64 z := he.get 2 25 (by kernel_rfl) rfl; obtain ⟨A, hP, _, hr⟩ := kinds_look hK z; exact op_lookup rfl e11 e13 (hr W rfl) ⟨A, rfl, hP⟩
    · intro ac W hL he; refine stepOk_want rfl ?_; obtain ⟨A, e22, hP⟩ : ∃ A, ac.eval (.tmp 26) = kindV z A ∧ RdP W A (flds z) := he.get 3 26 (by kernel_rfl) rfl; exact op_field rfl e22 (fieldKind2 z A W) ⟨A, rfl, hP⟩
    · intro ac W hL he; refine stepOk_want rfl ?_; obtain ⟨A, e23, hP⟩ : ∃ A, ac.eval (.tmp 27) = .slice A (flds z).length (flds z).length ∧ RdP W A (flds z) := he.get 4 27 (by kernel_rfl) rfl; exact op_len Tryz.underlying69 rfl e23 rfl
    · exact fun ac W hL he => stepOk_want rfl (op_move rfl rfl)
    intro xs W hL hx
    obtain ⟨Ap, v4, hP⟩ : ∃ A, xs 4 = .slice A (flds z).length (flds z).length ∧ RdP W A (flds z) := hx 4 (by decide)
    have v5 : xs 5 = .int .i64 ((flds z).length : Int) := hx 5 (by decide)
    have v6 : xs 6 = .int .i64 0 := hx 6 (by decide)
    simp only [putL, Nat.reduceAdd, Act.put, List.setIfInBounds_toArray, List.set_cons_succ, List.set_cons_zero]
    rw [v4, v5, v6]
    have hbW := hb6.trans (hL.below.mono hb6.size)
    have hgr7 : gr < w7.heap.size := by obtain ⟨D', c', h', _⟩ := hm6; exact h'.lt
    have hL0 : PLoop w W q q3 q4 gr A0 b (Ms.start b) W := ⟨by rw [HST.out], by rw [HST.out]; exact hm6.same (Same.of_below hL.below) hgr7, hd6.later hL, by rw [HST.out]; exact k2n.later hL, k3.later hL, k4.later hL, KT.refl _, hbW⟩
    clear hx v4 v5 v6 hL hbW hm6 hd6 k2n k3 k4 k2 hb6 ck7 hgr7
    generalize xs 0 = y0
    generalize xs 1 = y1
    generalize xs 2 = y2
    generalize xs 3 = y3
    have hkz : (Ms.start b).s.kind = z := by rw [HST.out]; rfl
    obtain ⟨fs, hfs⟩ : ∃ fs, flds z = fs := ⟨_, rfl⟩
    have hok := (flds_ok z).1
    have hfl := flds_len z
    rw [hfs] at hP hok hfl ⊢
    have HFS : Hid (flds (Ms.start b).s.kind = fs) := Lib.hid (by rw [hkz]; exact hfs)
    have HOK := Lib.hid hok
    clear hfs hok hkz
    obtain ⟨N, hn⟩ : ∃ n, fs.length = n := ⟨_, rfl⟩
    rw [hn] at hfl ⊢
    have HNF := Lib.hid hn
    have HP := Lib.hid hP
    clear hn hP
    obtain ⟨R0, hR0⟩ : ∃ R, Ms.start b = R := ⟨_, rfl⟩
    rw [hR0] at hL0
    have hwf0 : R0.s.wf := by rw [← hR0]; exact start_wf b
    have HR0 := Lib.hid hR0
    clear hR0 HST
    go_wp2_with fail
    go_loopw [29] (fun t wr => ∃ k : Nat, k ≤ N ∧ t = .int .i64 (k : Int) ∧ PLoop w W q q3 q4 gr A0 b (taken (fs.take k) R0) wr) (fun t _ => N - (intOf t).toNat)
    case atStart => exact ⟨0, by omega, rfl, hL0⟩
    case round =>
      obtain ⟨k, hk, rfl, hz⟩ := hrel
      obtain ⟨hob, hm1, hd1, hrow, k3, k4, hkt, hbel⟩ := hz
      by_cases hlt : k < N
      · have hd : decide ((k : Int) < (N : Int)) = true := decide_eq_true (by omega)
        have hd' : decide (k < N) = true := decide_eq_true hlt
        have hkl : k < fs.length := by rw [HNF.out]; exact hlt
        obtain ⟨bP, pc, hAp, hpc, hldp⟩ := (HP.out.kt hkt).part hkl
        subst hAp
        have hsn : fs.take (k + 1) = fs.take k ++ [fs[k]] := List.take_succ_eq_append_getElem hkl
        have hmo := okF_most (List.all_eq_true.1 HOK.out _ (List.getElem_mem hkl))
        have HSN := Lib.hid hsn
        clear hsn
        generalize fs[k] = f at *
        obtain ⟨w8, hst, hpa, hL5⟩ := newPart wr hpc
        have HLP := Lib.hid hldp
        clear hldp
        obtain ⟨cs4, hr4, hpc4⟩ := hpa
        have hgrw : gr < wr.heap.size := by obtain ⟨D', c', h', _⟩ := hm1; exact h'.lt
        obtain ⟨R, hR⟩ : ∃ R, taken (fs.take k) R0 = R := ⟨_, rfl⟩
        have hwfR : R.s.wf := by rw [← hR]; exact taken_wf _ hwf0
        have hRt : take1 R f = taken (fs.take (k + 1)) R0 := by rw [HSN.out, taken_snoc, hR]
        rw [hR] at hob hm1 hrow
        obtain ⟨F, caps, hF, hE, hcall⟩ := mtake_any f cs4 gr A0 b R.l q R.s w8 hwfR hpc4 hmo (hm1.same (Same.of_below hL5.below) hgrw) (hd1.later hL5) (hrow.later hL5)
        rw [← take_pad R f hob] at hcall
        have c27 : w8.cell? ⟨wr.heap.size, 1, none⟩ = some (.func (.func F) #[] caps) := (hr4.cell 1).trans hF
        have c4 : w8.cell? ⟨q4, 0, none⟩ = some (.pointer (some ⟨gr, 0, none⟩)) := ((k4.later hL5).cell 0).trans rfl
        have k38 := k3.later hL5
        have k48 := k4.later hL5
        have hd8 := hd1.later hL5
        have hrow8 := hrow.later hL5
        have hbel8 : Below w.heap.size w w8 := hbel.trans (hL5.below.mono hbel.size)
        have hkt8 : KT W w8 := hkt.trans (fun b T cs _ h => h.later hL5)
        have hgr8 : gr < w8.heap.size := Nat.lt_of_lt_of_le hgrw hL5.size
        have hrw8 : ∃ D c, Row w8 gr 140 (rdC D R.l.length c true false) := by
          obtain ⟨D', c', h', _⟩ := hm1
          exact ⟨D', c', h'.later hL5⟩
        have HKT8 := Lib.hid hkt8
        have HRW8 := Lib.hid hrw8
        have HE := Lib.hid hE
        have HCALL := Lib.hid hcall
        have HRT := Lib.hid hRt
        clear hE hF hpc4 hr4 hL5 hrow hpc hkt hbel hkt8 hcall hm1 hd1 k3 k4 hrw8 hRt
        have hldp := HLP.out
        go_upto_region 9 with (first
          | (guard_target =~ wpList _ _ _ (_ :: _) _ _; refine wpList_load rfl 78 (.tmp 31) rfl (.pointer (some ⟨bP, k * 3, none⟩)) rfl hldp ?_)
          | (with_reducible refine wpList_alloc rfl 78 rfl (allocPart _) ?_)
          | (guard_target =~ wpList _ _ _ (_ :: _) _ _; refine wpList_store rfl 78 (.tmp 7) (.tmp 32) rfl (.pointer (some ⟨wr.heap.size, 0, none⟩)) (.agg pc) rfl rfl hst ?_)
          | fail)
        clear hldp hst
        obtain ⟨R', hR'⟩ : ∃ R', take1 R f = R' := ⟨_, rfl⟩
        have hrt := HRT.out
        rw [hR'] at HCALL hrt
        have HRT2 := Lib.hid hrt
        have HOB := Lib.hid hob
        clear hR' HRT hrt hR
        cases hbad : R'.bad
        · have hok2 : Calls Tryz.prog F (#[.agg #[.pointer (some ⟨gr, 0, none⟩)], .pointer (some ⟨q, 0, none⟩)] ++ caps) w8 fun e w' => Same (fun k => k < w8.heap.size ∧ k ≠ gr ∧ k ≠ q) w8 w' ∧ e = .returned (.tuple #[]) ∧ Moved w' gr A0 b R'.l false ∧ Row w' q 29 (saidC R'.s) := HCALL.out.mono fun e w' ⟨h1, h2⟩ => by
            rcases h2 with ⟨_, h3, h4, h5⟩ | ⟨h3, _⟩
            · exact ⟨h1, h3, h4, h5⟩
            · rw [hbad] at h3; cases h3
          have HOK2 := Lib.hid hok2
          have HBAD := Lib.hid hbad
          clear hok2 HCALL hbad
          go_wp2_with (first
            | (guard_target =~ wpList _ _ _ (_ :: _) _ _; refine wpList_callV rfl (.tmp 34) #[.tmp 35, .tmp 2] _ rfl (f := F) (bound := caps) (vs := #[.agg #[.pointer (some ⟨gr, 0, none⟩)], .pointer (some ⟨q, 0, none⟩)]) rfl (by simp only [List.map_toArray, List.map_cons, List.map_nil]; rfl) HE.out rfl ?_; refine HOK2.out.mono ?_; rintro e w9 ⟨hs9, rfl, hm9, hr9⟩; refine .inl ⟨_, rfl, ?_⟩)
            | fail)
          go_roundw
          case rel =>
            refine ⟨k + 1, by omega, by go_num, ?_⟩
            rw [← HRT2.out]
            have hgr9 : ∀ T cs b', Row w8 b' T cs → b' ≠ gr → b' ≠ q → Row w9 b' T cs := fun T cs b' h h1 h2 => h.same hs9 ⟨h.lt, h1, h2⟩
            obtain ⟨Dg, cg, hgrow⟩ := HRW8.out
            exact ⟨HBAD.out, hm9, hd8.same hs9 (fun x o e hne => ⟨hd8.lt e hne, (hA x o e hne).1, (hA x o e hne).2.1⟩), hr9, hgr9 _ _ _ k38 hqgr.2.1 (fun e => hqq e.symm), hgr9 _ _ _ k48 hqgr.2.2 (by omega), HKT8.out.trans (fun b' T cs ht h => hgr9 _ _ _ h (fun e => by subst e; have := Row.type h hgrow; subst this; revert ht; decide) (fun e => by subst e; have := Row.type h hrow8; subst this; revert ht; decide)), below_took hbel8 hs9 (fun x h => ⟨Nat.lt_of_lt_of_le h hbel8.size, by omega, by omega⟩)⟩
          case measure => simp [intOf]; omega
        · have hno2 : Calls Tryz.prog F (#[.agg #[.pointer (some ⟨gr, 0, none⟩)], .pointer (some ⟨q, 0, none⟩)] ++ caps) w8 fun e w' => Same (fun k => k < w8.heap.size ∧ k ≠ gr ∧ k ≠ q) w8 w' ∧ e = .panicked (gaveUp 210) ∧ Row w' q 29 (saidC R.s) := HCALL.out.mono fun e w' ⟨h1, h2⟩ => by
            rcases h2 with ⟨h3, _⟩ | ⟨_, h3, h4⟩
            · rw [hbad] at h3; cases h3
            · exact ⟨h1, h3, h4⟩
          have HNO2 := Lib.hid hno2
          have HBAD := Lib.hid hbad
          clear hno2 HCALL hbad
          go_wp2_with (first
            | (guard_target =~ wpList _ _ _ (_ :: _) _ _; refine wpList_callV rfl (.tmp 34) #[.tmp 35, .tmp 2] _ rfl (f := F) (bound := caps) (vs := #[.agg #[.pointer (some ⟨gr, 0, none⟩)], .pointer (some ⟨q, 0, none⟩)]) rfl (by simp only [List.map_toArray, List.map_cons, List.map_nil]; rfl) HE.out rfl ?_; refine HNO2.out.mono ?_; rintro e w9 ⟨hs9, rfl, hr9⟩; refine .inr ⟨_, rfl, ?_⟩)
            | fail)
          have kF2 := hr9
          have kF3 := k38.same hs9 ⟨k38.lt, hqgr.2.1, fun e => hqq e.symm⟩
          have hbF := below_took hbel8 hs9 (fun x h => ⟨Nat.lt_of_lt_of_le h hbel8.size, by omega, by omega⟩)
          have hsF := hwfR
          have HNO : Ms.parse b = Ms.blank 0 ∧ Ms.parseE b = 210 := by
            have : okB b = false := ok_at HFS.out (k + 1) (by rw [HR0.out, ← HRT2.out]; exact HBAD.out)
            unfold Ms.parse Ms.parseE
            rw [this]
            exact ⟨rfl, rfl⟩
          refine leaves_cons (f := 39) (args := #[.pointer (some ⟨q3, 0, none⟩), .func (.func 40) #[] #[.pointer (some ⟨q, 0, none⟩)]]) (by simp) (by simp [go_sem]) ?_; refine (parse_caught q q3 _ hsF _ w _ kF2 kF3 hbF hwq hwq3).mono ?_; rintro e u' w'' ⟨rfl, rfl, kQ, cE, hbG⟩; show ∃ v, _ ∧ _; exact ⟨_, results_cc rfl _ _ q q3 29 (saidC (Ms.blank 0)) _ (.int .i64 210) rfl rfl kQ Tryz.underlying29 rfl (by rw [saidC_size (blank_wf 0)]; exact infoSaid) (loadErr cE), HΦ.out _ _ ⟨by rw [HNO.1, HNO.2], hbG⟩⟩
      · obtain rfl : k = N := by omega
        have hd : decide ((k : Int) < (k : Int)) = false := decide_eq_false (by omega)
        have hd' : decide (k < k) = false := decide_eq_false (by omega)
        rw [List.take_of_length_le (by rw [HNF.out]; exact Nat.le_refl _)] at hob hm1 hrow
        have hfin : final b = taken fs R0 := by unfold final; rw [HFS.out, HR0.out]
        obtain ⟨R, hR⟩ : ∃ R, taken fs R0 = R := ⟨_, rfl⟩
        rw [hR] at hob hm1 hrow hfin
        have hokb : okB b = (R.l.isEmpty && Ms.right R.s) := by unfold okB; rw [hfin, hob]; rfl
        have hpa : Ms.parse b = (if okB b then R.s else Ms.blank 0) := by unfold Ms.parse; rw [hfin]
        have hwfR : R.s.wf := by rw [← hfin]; exact final_wf b
        have hrl : R.s.route.length ≤ 9223372036854775807 := by
          have := final_route b
          rw [hfin] at this
          have := HN.out
          omega
        obtain ⟨D2, c2, hrow2, hc2, hcm2, hRD2⟩ := hm1
        have hend := end_mv gr R.l false wr D2 c2 hrow2 hc2 hcm2 (hRD2 wr hd1)
        have c4 : wr.cell? ⟨q4, 0, none⟩ = some (.pointer (some ⟨gr, 0, none⟩)) := (k4.cell 0).trans rfl
        have HOKB := Lib.hid hokb
        have HPA := Lib.hid hpa
        have HR2 := Lib.hid hR
        clear hokb hpa hfin hR HR0 HFS HP hkt hrow2 hRD2 hob
        cases hem : R.l.isEmpty
        · have he : Wr.endR R.l false = ((R.l, true), 140) := by unfold Wr.endR; rw [hem]; rfl
          rw [he] at hend
          have HNO : Ms.parse b = Ms.blank 0 ∧ Ms.parseE b = 210 := by
            have : okB b = false := by rw [HOKB.out, hem]; rfl
            unfold Ms.parse Ms.parseE
            rw [this]
            exact ⟨rfl, rfl⟩
          have HNO1 := Lib.hid HNO
          have HEND := Lib.hid hend
          clear HNO hend he hem
          go_wp2_with (first
            | (go_at_call 44; refine HEND.out.mono ?_; rintro e w9 ⟨hs9, rfl, hm9⟩)
            | (go_at_call 43; refine (mmust_no _).mono ?_; rintro e wx ⟨rfl, rfl⟩)
            | fail)
          have kF2 := hrow.same hs9 ⟨hrow.lt, hqgr.1⟩
          have kF3 := k3.same hs9 ⟨k3.lt, hqgr.2.1⟩
          have hbF := below_took hbel hs9 (fun x h => ⟨Nat.lt_of_lt_of_le h hbel.size, by omega⟩)
          have hsF := hwfR
          have HNO := HNO1.out
          refine leaves_cons (f := 39) (args := #[.pointer (some ⟨q3, 0, none⟩), .func (.func 40) #[] #[.pointer (some ⟨q, 0, none⟩)]]) (by simp) (by simp [go_sem]) ?_; refine (parse_caught q q3 _ hsF _ w _ kF2 kF3 hbF hwq hwq3).mono ?_; rintro e u' w'' ⟨rfl, rfl, kQ, cE, hbG⟩; show ∃ v, _ ∧ _; exact ⟨_, results_cc rfl _ _ q q3 29 (saidC (Ms.blank 0)) _ (.int .i64 210) rfl rfl kQ Tryz.underlying29 rfl (by rw [saidC_size (blank_wf 0)]; exact infoSaid) (loadErr cE), HΦ.out _ _ ⟨by rw [HNO.1, HNO.2], hbG⟩⟩
        · have he : Wr.endR R.l false = ((R.l, false), 0) := by unfold Wr.endR; rw [hem]; rfl
          rw [he] at hend
          have hgs : ∀ W, Same (fun k => k < wr.heap.size ∧ k ≠ gr) wr W → Row W q 29 (saidC R.s) ∧ Row W q3 33 #[.int .i64 0] := fun W hs => ⟨hrow.same hs ⟨hrow.lt, hqgr.1⟩, k3.same hs ⟨k3.lt, hqgr.2.1⟩⟩
          have HGS := Lib.hid hgs
          have HEND := Lib.hid hend
          have hck := fun W => mcheck_any R.s hwfR hrl W
          clear hend he hgs
          cases hri : Ms.right R.s
          · have he : bodyE R.s = 2 := by unfold bodyE; rw [hri]; rfl
            rw [he] at hck
            have HNO1 : Hid (Ms.parse b = Ms.blank 0 ∧ Ms.parseE b = 210) := Lib.hid (by
              have : okB b = false := by rw [HOKB.out, hri]; simp
              unfold Ms.parse Ms.parseE
              rw [this]
              exact ⟨rfl, rfl⟩)
            have HCK := Lib.hid hck
            clear hck he hri hem
            go_wp2_with (first
              | (go_at_call 44; refine HEND.out.mono ?_; rintro e w9 ⟨hs9, rfl, hm9⟩; obtain ⟨kq, kq3⟩ := HGS.out w9 hs9; have hld := loadSaid hwfR kq)
              | (guard_target =~ wpList _ _ _ (_ :: _) _ _; refine wpList_loadG rfl 29 (.tmp 2) rfl (.pointer (some ⟨q, 0, none⟩)) rfl hld ?_)
              | (go_at_call 13; refine (HCK.out _).mono ?_; rintro e w10 ⟨rfl, hL10⟩)
              | (go_at_call 43; refine (mmust_no _).mono ?_; rintro e wx ⟨rfl, rfl⟩)
              | fail)
            have kF2 := kq.later hL10
            have kF3 := kq3.later hL10
            have hbF0 := below_took hbel hs9 (fun x h => ⟨Nat.lt_of_lt_of_le h hbel.size, by omega⟩)
            have hbF := hbF0.trans (hL10.below.mono hbF0.size)
            have hsF := hwfR
            have HNO := HNO1.out
            refine leaves_cons (f := 39) (args := #[.pointer (some ⟨q3, 0, none⟩), .func (.func 40) #[] #[.pointer (some ⟨q, 0, none⟩)]]) (by simp) (by simp [go_sem]) ?_; refine (parse_caught q q3 _ hsF _ w _ kF2 kF3 hbF hwq hwq3).mono ?_; rintro e u' w'' ⟨rfl, rfl, kQ, cE, hbG⟩; show ∃ v, _ ∧ _; exact ⟨_, results_cc rfl _ _ q q3 29 (saidC (Ms.blank 0)) _ (.int .i64 210) rfl rfl kQ Tryz.underlying29 rfl (by rw [saidC_size (blank_wf 0)]; exact infoSaid) (loadErr cE), HΦ.out _ _ ⟨by rw [HNO.1, HNO.2], hbG⟩⟩
          · have he : bodyE R.s = 0 := by unfold bodyE; rw [hri]; rfl
            rw [he] at hck
            have HYES : Hid (Ms.parse b = R.s ∧ Ms.parseE b = 0) := Lib.hid (by
              have : okB b = true := by rw [HOKB.out, hri, hem]; rfl
              refine ⟨by rw [HPA.out, this]; rfl, ?_⟩
              unfold Ms.parseE
              rw [this]
              rfl)
            have HCK := Lib.hid hck
            clear hck he hri hem
            go_upto_region 12 with (first
              | (go_at_call 44; refine HEND.out.mono ?_; rintro e w9 ⟨hs9, rfl, hm9⟩; obtain ⟨kq, kq3⟩ := HGS.out w9 hs9; have hld := loadSaid hwfR kq)
              | (guard_target =~ wpList _ _ _ (_ :: _) _ _; refine wpList_loadG rfl 29 (.tmp 2) rfl (.pointer (some ⟨q, 0, none⟩)) rfl hld ?_)
              | (go_at_call 13; refine (HCK.out _).mono ?_; rintro e w10 ⟨rfl, hL10⟩)
              | (go_at_call 43; refine (mmust_ok _).mono ?_; rintro e wx ⟨rfl, rfl⟩)
              | fail)
            have kq := kq.later hL10
            have kq3 := kq3.later hL10
            have hb9 := below_took hbel hs9 (fun x h => ⟨Nat.lt_of_lt_of_le h hbel.size, by omega⟩)
            have hb10 := hb9.trans (hL10.below.mono hb9.size)
            clear hld
            have hld := loadSaid hwfR kq
            obtain ⟨w11, hst, kq11, hg11⟩ := storeSaid hwfR hwfR kq
            have kq311 := kq3.grown hg11 (fun e => hqq (Option.some.inj e).symm)
            have hb11 := hb10.grown hg11 hb10.size (fun j e => by cases e; exact hwq)
            have c3 : w11.cell? ⟨q3, 0, none⟩ = some (.int .i64 0) := (kq311.cell 0).trans rfl
            have f3 : w11.frozen? ⟨q3, 0, none⟩ = false := kq311.frozen 0
            go_wp2_with (first
              | (guard_target =~ wpList _ _ _ (_ :: _) _ _; refine wpList_load rfl 29 (.tmp 2) rfl (.pointer (some ⟨q, 0, none⟩)) rfl hld ?_)
              | (guard_target =~ wpList _ _ _ (_ :: _) _ _; refine wpList_store rfl 29 (.tmp 2) (.tmp 48) rfl (.pointer (some ⟨q, 0, none⟩)) (.agg (saidC R.s)) rfl rfl hst ?_)
              | fail)
            refine leaves_cons (f := 39) (args := #[.pointer (some ⟨q3, 0, none⟩), .func (.func 40) #[] #[.pointer (some ⟨q, 0, none⟩)]]) (by simp) (by simp [go_sem]) ?_
            refine (mcaught_idle _ _ _).mono ?_
            rintro e u' w'' ⟨rfl, rfl, rfl⟩
            have kQ := kq11.far (p := ⟨q3, 0, none⟩) hqq (.int .i64 0)
            have k3' := kq311.set 0 (.int .i64 0)
            have cE := (k3'.cell 0).trans rfl
            have hb12 := hb11.setCell (p := ⟨q3, 0, none⟩) hwq3 (.int .i64 0)
            show ∃ v, _ ∧ _
            exact ⟨_, results_cc rfl _ _ q q3 29 (saidC R.s) _ (.int .i64 0) rfl rfl kQ Tryz.underlying29 rfl (by rw [saidC_size hwfR]; exact infoSaid) (loadErr cE), HΦ.out _ _ ⟨by rw [HYES.out.1, HYES.out.2], hb12⟩⟩
end Go.Proofs.YtcajhdmppfiaeaaGreat
namespace Go.Proofs.YtcajhdmppfiaeaaGreat
open Go.RowKit Ms
theorem wpList_lookupR {P : Program} {w : World} {ops : Array Oper} {rest : List Oper} {o : Oper} {a : Act} {Q : Exit → Act → World → Prop} (hgd : o.guard = none) (T : TypeId) (x y : Operand) (ok : Bool) (ho : o.op = .lookup T x y ok) (vx vy : Value) (hx : a.eval x = vx) (hy : a.eval y = vy) {v : Value} (hr : (Instr.lookup T vx vy ok).run P w = .ok v w) (h : wpList P ops Q rest (a.put o.dst v) w) : wpList P ops Q (o :: rest) a w := by
  refine wpList_plain hgd fun K hK => ?_
  unfold Oper.wp execOp
  simp only [ho, hx, hy, hr, Sem.run_bind, Sem.run_pure, Result.andThen_ok]
  exact hK _ _ h
theorem newKind (w : World) (k : Int) (A : Option Addr) : ∃ w' cs, (Instr.storeAt 71 (.pointer (some ⟨w.heap.size, 0, none⟩)) (kindV k A)).run Tryz.prog (w.alloc (.cells #[.string ⟨#[]⟩, .nilFunc, .slice none 0 0] 71)) = .ok () w' ∧ Row w' w.heap.size 71 cs ∧ cs[0]? = some (.string (kName k)) ∧ Later w w' := by
  obtain ⟨w', cs, h1, h2, hz, h3, h4⟩ := putKind (k := k) (A := A) (Row.new w 71 #[.string ⟨#[]⟩, .nilFunc, .slice none 0 0]) rfl
  obtain ⟨cs', e, _, _, _, _, h0⟩ := kindV_one k A
  have : cs' = cs := by
    have := e.symm.trans h2
    injection this
  subst this
  exact ⟨w', cs', h1, h3, h0, Below.grown ((Later.refl w).alloc _) h4 (by simp only [World.size_alloc]; omega) (fun j e => by cases e; exact Nat.le_refl _)⟩
set_option maxRecDepth 100000 in
theorem mtext_any (k : Int) (w : World) : Calls Tryz.prog 23 #[.int .i64 k] w fun e w' => e = .returned (.tuple #[.string (kName k), .bool (isKind k)]) ∧ Below w.heap.size w w' := by
  have hkk := kinds_any w
  go_enter Tryz.func23, Tryz.ntmps23
  go_upto_region 2 with (first
    | (go_at_call 26; refine hkk.mono ?_; clear hkk; rintro e w1 ⟨m, rfl, hK, hb1, _⟩; obtain ⟨A, hP, hr1, _⟩ := kinds_look hK k; obtain ⟨w2, cs, hst, hrow, h0, hL2⟩ := newKind w1 k A)
    | (guard_target =~ wpList _ _ _ (_ :: _) _ _; refine wpList_lookupR rfl 72 (.tmp 7) (.tmp 8) true rfl (.map (some m)) (.int .i64 k) rfl rfl (hr1 _ rfl) ?_)
    | (with_reducible refine wpList_alloc rfl 71 rfl (allocKind _) ?_)
    | (guard_target =~ wpList _ _ _ (_ :: _) _ _; refine wpList_store rfl 71 (.tmp 4) (.tmp 10) rfl (.pointer (some ⟨w1.heap.size, 0, none⟩)) (kindV k A) rfl rfl hst ?_)
    | fail)
  have c0 : w2.cell? ⟨w1.heap.size, 0, none⟩ = some (.string (kName k)) := (hrow.cell 0).trans h0
  have hb2 := hb1.trans (hL2.below.mono hb1.size)
  clear hst hrow h0 hL2 hr1 hP hK
  go_wp2_with fail
  go_ret2
  exact ⟨rfl, hb2⟩
namespace Ms
def said7 : Said := { blank 7 with id := 1 }
theorem k_body : bodyR said7 = [7, 1] ++ List.replicate 32 0 ∧ bodyE said7 = 0 := by decide +kernel
theorem k_p5 : parse [5] = blank 5 ∧ parseE [5] = 0 := by decide +kernel
theorem k_p50 : parse [5, 0] = blank 0 ∧ parseE [5, 0] = 210 := by decide +kernel
theorem k_p0 : parse [] = blank 0 ∧ parseE [] = 210 := by decide +kernel
theorem k_c8 : bodyE (blank 8) = 2 := by decide +kernel
theorem said7_wf : said7.wf := fun j hj => blank_wf 7 j hj
end Ms
theorem build7 (w : World) : (Instr.build 29 #[(0, .int .i64 7), (10, .int .i64 1)]).run Tryz.prog w = .ok (.agg (saidC said7)) w := by kernel_rfl
theorem build5 (w : World) : (Instr.build 29 #[(0, .int .i64 5)]).run Tryz.prog w = .ok (.agg (saidC (Ms.blank 5))) w := by kernel_rfl
theorem build8 (w : World) : (Instr.build 29 #[(0, .int .i64 8)]).run Tryz.prog w = .ok (.agg (saidC (Ms.blank 8))) w := by kernel_rfl
end Go.Proofs.YtcajhdmppfiaeaaGreat
