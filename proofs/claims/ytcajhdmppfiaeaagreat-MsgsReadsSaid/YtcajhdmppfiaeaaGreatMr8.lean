/- Joined texts: Gn7 Gn8 Gn9 Gn10 Gn11 Gn12. -/
import Derived.Test.YtcajhdmppfiaeaaGreatMr7
import Derived.WalkKit
import Derived.WalkSpells
import Derived.Deep.MidRow
import Derived.Deep.WholeRow
import Derived.Deep.Draws
import Derived.Maps.AppendAt
import Derived.Lib.Hide
import Derived.OwnWalk
import Derived.Laws.IdiomStrings
import Derived.Lib.SlBytesConst
import Derived.Orders
import Derived.Shelf.Abstract
import Derived.OrdersIn
import Derived.RangeFuncCalls
import Derived.RangeFuncNested
import Derived.RangeFuncBound
import Derived.RangeFuncLeaves
import Derived.Shelf.RegionOpen
import Derived.OwnWalkIn
import Derived.TacticsInMore
import Derived.LoopNIn
import Derived.LoopIn
import Derived.WalkMore
import Derived.Test.YtcajhdmppfiaeaaGreatRows
import Derived.ProofKit
import Derived.OpenShut
import Derived.Deep.Slices
import Derived.Deep.Matrix
import Derived.WalkLawsBesides
import Derived.BigRegion
import Derived.BigQuiet
import Derived.Lib.AppendZeros
import Derived.Laws.BitsAllLaws
import Derived.IntWalk
import Derived.Laws.CopyOwn
import Derived.Outline
import Derived.Deep.RegionWith
import Derived.Deep.RegionHeld3
import Derived.Stop.BytesEq
import Derived.ShutString
import Derived.ChangeOld
import Derived.Lib.ConvBytes
import Derived.Recover
import Derived.Defers
import Derived.Deep.Cut
import Derived.Deep.DeepCutAuto
import Derived.Deep.QuietTactic
import Derived.Laws.EntriesVeiled
import Derived.StillTailTactics
import Derived.Maps.OwnOps
import Derived.Lib.QuoteBits
import Derived.Lib.AppendStr
import Derived.Deep.Grids
import Derived.Deep.Strs
import Derived.MapKept
import Derived.Laws.StructEq
import Derived.ChangeKeysEq
import Derived.Stop.Joined
set_option linter.unusedVariables false
set_option linter.unusedSimpArgs false
namespace Go.Proofs.YtcajhdmppfiaeaaGreat
open Go.RowKit Ms
attribute [local go_sem] Oper.semAt_some
section
variable {F : Fence} {n : Nat} {P : Program} {w : World} {ops : Array Oper} {rest : List Oper} {o : Oper} {a : Act} {Q : Exit → Act → World → Prop}
theorem wpListIn_on (hw : Region.wanted o (yielded ops a.tmps) = true) (h : ∀ K : Act → World → Prop, (∀ a w, wpListIn F n P ops Q rest a w → K a w) → o.wpIn F n P a w K Q) : wpListIn F n P ops Q (o :: rest) a w :=
  wpListIn_step fun K hK => by
    rw [if_pos hw]
    exact h K hK
theorem wpListIn_loadG (hw : Region.wanted o (yielded ops a.tmps) = true) (T : TypeId) (x : Operand) (ho : o.op = .load T x) (vx : Value) (hx : a.eval x = vx) {v : Value} {w' : World} (hr : (Instr.loadAt T vx).run P w = .ok v w')
    (h : wpListIn F n P ops Q rest (a.put o.dst v) w') : wpListIn F n P ops Q (o :: rest) a w := by
  refine wpListIn_on hw fun K hK => ?_
  unfold Oper.wpIn
  refine ⟨?_, ?_⟩
  · simp [Oper.about, ho]
  · rw [Oper.semAt_plain F _ _ (by rw [ho]; intro c hc'; cases hc')]
    simp [execOp, ho, hx, hr, Result.andThen]
    exact hK _ _ h
end
theorem wpIn_name {F : Fence} {n : Nat} {P : Program} {c : Code} {Q : Exit → Act → World → Prop} {tm : Array Value} {d : List Deferred} {w : World} (h : ∀ T, T = tm → c.wpIn F n P Q { tmps := T, defers := d } w) : c.wpIn F n P Q { tmps := tm, defers := d } w := h tm rfl
structure Ms.Td where
  at_ : Int
  t : Tell
abbrev tdE (x : Td) : Array Value := #[.int .i64 x.at_, .agg (toldC x.t)]
namespace Ms
def tgo (k : Nat) (l : List UInt8) : Bool := Wr.goes k l && okT (Wr.body k l)
def tAt (k : Nat) (l : List UInt8) : Td := ⟨Wr.upto (k + 1) l, toldOf (Wr.body k l)⟩
end Ms
abbrev noFr : Fr := ⟨0, none, 0, [], 0⟩
abbrev KeepT (D : Nat → Prop) (_ : Td) (X Y : World) : Prop := KeepW D noFr X Y
abbrev TdOk (l : List UInt8) (pre : List Td) (x : Td) (_ : World) : Prop := (∀ i, i ≤ pre.length → tgo i l = true) ∧ x = tAt pre.length l
theorem loadFnT {b o : Nat} {v : Value} {W : World} (hc : W.cell? ⟨b, o, none⟩ = some v) : (Instr.loadAt 114 (.pointer (some ⟨b, o, none⟩))).run Tryz.prog W = .ok v W := by
  go_simp
theorem KeepW.later {D : Nat → Prop} {x : Fr} {X Y : World} (h : Later X Y) : KeepW D x X Y := ⟨h.size, fun b hb _ _ => h.block b hb⟩
set_option maxRecDepth 100000 in
set_option maxHeartbeats 4000000 in
theorem mall1_seq (l : List UInt8) (gs gf gd : Nat) (A : Option Addr) (n c : Nat) (w : World) (n1 : Nat) (hn1 : 5 ≤ n1) (D : Nat → Prop) (hDw : ∀ b, D b → b < w.heap.size + 2) (hDs : ¬ D gs) (hDf : ¬ D gf) (hDd : ¬ D gd) (hn : l.length = n) (hc : n ≤ c) (hcm : c ≤ 9223372036854775807) (hnm : n ≤ 140737488355328) (hA : Rd w A l) (hAg : ∀ ad, A = some ad → ad.block = gd) (hk : Row w gf 32 #[.slice A n c]) (hs : Row w gs 112 #[.func (.func 104) #[] #[.pointer (some ⟨gf, 0, none⟩)]]) (hgd : gd < w.heap.size) :
    SeqW Fence.wide n1 Tryz.prog 52 #[.pointer (some ⟨gs, 0, none⟩)] tdE (KeepT D) (fun xs => tgo xs.length l = false ∧ ∀ k, k < xs.length → tgo k l = true) (fun _ => True) (TdOk l) (fun _ => False) w := fun k0 J Jx W hW hW2 hJ hJx hY h0 => by
  have hkW := hk.belowAll hW
  have hsW := hs.belowAll hW
  have hAW := hA.below hW
  have hgf : gf < w.heap.size := hk.lt
  have hgs : gs < w.heap.size := hs.lt
  have HY := Lib.hid hY
  have HJ := Lib.hid hJ
  have HJx := Lib.hid hJx
  have HN := Lib.hid hn
  clear hY hJ hJx hk hs hA hW hn
  refine callsIn_of_wp_marks Tryz.func52 rfl trivial ?_ rfl
  simp only [Tryz.ntmps52, List.size_toArray, List.length_cons, List.length_nil, Nat.reduceAdd, Nat.reduceSub, Array.replicate_succ, Array.replicate_zero, List.push_toArray, List.append_toArray, List.nil_append, List.cons_append]
  have c1 : W.cell? ⟨gs, 0, none⟩ = some (.func (.func 104) #[] #[.pointer (some ⟨gf, 0, none⟩)]) := (hsW.cell 0).trans rfl
  have k2 := Row.new W 114 #[.func (.yield k0) #[] #[]]
  have hb3 : Below W.heap.size W (W.alloc (.cells #[.func (.yield k0) #[] #[]] 114)) := below_new W _
  have c13 : (W.alloc (.cells #[.func (.yield k0) #[] #[]] 114)).cell? ⟨gs, 0, none⟩ = some (.func (.func 104) #[] #[.pointer (some ⟨gf, 0, none⟩)]) := ((hsW.belowAll hb3).cell 0).trans rfl
  have hw3s : (W.alloc (.cells #[.func (.yield k0) #[] #[]] 114)).heap.size = W.heap.size + 1 := World.size_alloc _ _
  gi_wp2
  refine wpIn_scope_wide ?_
  gi_wp2
  refine wpIn_label ?_
  gi_wp2
  obtain ⟨q2, hq2⟩ : ∃ q, q = W.heap.size := ⟨_, rfl⟩
  obtain ⟨w3, hw3⟩ : ∃ x, x = W.alloc (.cells #[.func (.yield k0) #[] #[]] 114) := ⟨_, rfl⟩
  rw [← hw3] at k2 hb3 hw3s ⊢
  rw [← hq2] at k2 hw3s ⊢
  have hA3 := hAW.below hb3
  have hkf3 := hkW.belowAll hb3
  have hJ3 := HJ.out.below h0 hb3
  have hD3 : ∀ b, D b → b < q2 := fun b hb => by have := hDw b hb; omega
  have hn1f : ¬ (D gf ∨ gf = w3.heap.size + 1) := by
    rintro (h | h)
    · exact hDf h
    · omega
  have hn1d : ¬ (D gd ∨ gd = w3.heap.size + 1) := by
    rintro (h | h)
    · exact hDd h
    · omega
  have hseq := frames1_seq l gf gd A n c w3 (n1 - 1) (by omega) (fun b => D b ∨ b = w3.heap.size + 1) (fun b hb => by rcases hb with h | h; have := hD3 b h; omega; omega) hn1f hn1d HN.out hc hcm hA3 hAg hkf3 (by omega)
  have HS := Lib.hid hseq
  have HW3 := Lib.hid hw3
  have HQ2 := Lib.hid hq2
  clear hseq h0 hkW hAW c1 c13 hsW hkf3 hA3 hw3 hq2
  refine wpIn_name fun T0 hT0 => ?_
  refine wpIn_range_W (α := Fr) (Kp := KeepW (fun b => D b ∨ b = w3.heap.size + 1)) rfl (by omega) (gf := 104) (lb := #[.pointer (some ⟨gf, 0, none⟩)]) (by rw [hT0]; rfl) trivial (enters_of Tryz.func104 (by kernel_rfl) rfl)
    HS.out (fun r h => h.elim) (fun h k => h.trans k) (fun x W o => KeepW.put W o (.inr rfl)) (Below.refl _ _) (fun _ => rfl)
    (fun pre X => (∃ pre' : List Td, pre'.length = pre.length ∧ J pre' X) ∧ (∀ i, i < pre.length → tgo i l = true) ∧ Row X q2 114 #[.func (.yield k0) #[] #[]])
    (fun c _ X => c = Code.exit 0 ∧ ((∃ xs : List Td, (tgo xs.length l = false ∧ ∀ k, k < xs.length → tgo k l = true) ∧ J xs X) ∨ ∃ pre' : List Td, Jx pre' X))
    (fun pre X Y ⟨⟨pre', h1, h2⟩, h3, h5⟩ hs => ⟨⟨pre', h1, HJ.out _ _ _ h2 (hs.mono fun k hk => ⟨by have := HQ2.out; omega, fun h => h.elim⟩)⟩, h3, h5.same hs ⟨by omega, fun h => h.elim⟩⟩)
    (fun c pre X Y ⟨h1, h2⟩ hs => ⟨h1, by
      rcases h2 with ⟨xs, hx, hj⟩ | ⟨pre', hj⟩
      · exact .inl ⟨xs, hx, HJ.out _ _ _ hj (hs.mono fun k hk => ⟨by have := HQ2.out; omega, fun h => h.elim⟩)⟩
      · exact .inr ⟨pre', HJx.out _ _ _ hj (hs.mono fun k hk => ⟨by have := HQ2.out; omega, fun h => h.elim⟩)⟩⟩)
    ⟨⟨[], rfl, hJ3⟩, by simp, k2⟩
    (fun pre x a' X => a' = { tmps := ((((T0.setIfInBounds 8 (.int .i64 x.at_)).setIfInBounds 9 (.slice x.A x.body.length x.c)).setIfInBounds 3 (.int .i64 x.at_)).setIfInBounds 4 (.slice x.A x.body.length x.c)), defers := [] } ∧ FrOk true (w3.heap.size + 2) l pre x X)
    (fun pre x a' X o ⟨h1, h2, h3, h4, h5, h6, h7⟩ => ⟨h1, h2, h3, h4, h5.keep (fun b _ e => World.putObj_heap_other (by intro e2; subst e2; have := (h5.at_ _ e).1; omega)), h6, by simpa [World.putObj] using h7⟩) ?assign ?body ?done ?stop
  case assign =>
    intro l0 pre x X K hXs hi hok hK
    have HK := Lib.hid hK
    have HI := Lib.hid hi
    have HOK := Lib.hid hok
    clear hK hi hok
    have e89 : ((#[8, 9] : Array Tmp).zip (frE x)).foldl (fun t (p, v) => t.setIfInBounds p v) T0 = (T0.setIfInBounds 8 (.int .i64 x.at_)).setIfInBounds 9 (.slice x.A x.body.length x.c) := by simp
    rw [e89, hT0]
    clear e89
    simp only [List.setIfInBounds_toArray, List.set_cons_succ, List.set_cons_zero]
    gi_wp2
    exact HK.out _ _ (KeepsFrom.refl _ _) (KeepW.refl _ _ _) HI.out ⟨by rw [hT0]; rfl, HOK.out⟩
  case body =>
    rintro l0 pre x a' X hl hlo hXs ⟨⟨pre', h1, h2⟩, h3, h5⟩ ⟨rfl, hok⟩
    obtain ⟨g1, g2, g3, hown, g5, g6⟩ := hok
    rw [if_pos rfl] at g3
    obtain ⟨A2, c2, e2, hc2, hcm2, hrd2⟩ := hown.slice
    injection e2 with e3 _ e5
    subst e3 e5
    have hbl : x.body.length ≤ 140737488355328 := by
      have h6 := (Wr.split_bounds (Wr.rest pre.length l)).2.2
      have h7 := Wr.rest_len pre.length l
      have h8 := HN.out
      rw [g2]
      unfold Wr.body
      omega
    have htl := told_any x.A x.body.length x.c x.body X rfl hc2 hcm2 hbl hrd2
    obtain ⟨ok, hok⟩ : ∃ b, okT x.body = b := ⟨_, rfl⟩
    have hTE : toldE x.body = if ok = true then 0 else 210 := by unfold toldE; rw [hok]
    rw [hTE] at htl
    have htg : tgo pre.length l = ok := by unfold tgo; rw [g1, ← g2, hok]; rfl
    have hTw := toldOf_wf x.body
    have hta : toldOf (Wr.body pre.length l) = toldOf x.body := by rw [g2]
    have hat : x.at_ = Wr.upto (pre.length + 1) l := g3
    generalize toldOf x.body = T at *
    have HTL := Lib.hid htl
    have HTG := Lib.hid htg
    have HTA := Lib.hid hta
    have HAT := Lib.hid hat
    have HJ2 := Lib.hid h2
    clear htl hok hTE htg hta g3 g2 hat hrd2 hown h2
    rw [hT0]
    simp only [List.setIfInBounds_toArray, List.set_cons_succ, List.set_cons_zero]
    have hqX : q2 < X.heap.size := h5.lt
    have hXW : W.heap.size ≤ X.heap.size := by have := HQ2.out; omega
    have hplen : (pre ++ [x]).length = pre.length + 1 := by simp
    cases ok
    · gi_wp2_with (first
        | (refine ⟨trivial, ?_⟩; gi_at_call 53; refine (CallsIn.inRound l0 (callsIn_wide.2 HTL.out)).mono ?_; rintro e W9 ⟨rfl, hL9⟩; obtain ⟨w9, hst, k9, hL9b⟩ := newTold W9 hTw; have hL : Later X w9 := Later.step hL9 hL9b; have hJ9 := HJ.out.below HJ2.out (hL.below.mono hXW))
        | (refine ⟨trivial, fun _ => by omega, (CallsIn.inRound l0 (callsIn_wide.2 HTL.out)).mono ?_⟩; rintro e W9 ⟨rfl, hL9⟩; obtain ⟨w9, hst, k9, hL9b⟩ := newTold W9 hTw; have hL : Later X w9 := Later.step hL9 hL9b; have hJ9 := HJ.out.below HJ2.out (hL.below.mono hXW))
        | (refine wpListIn_allocR rfl 48 rfl (allocTold _) ?_)
        | (refine wpListIn_storeR rfl 48 (.tmp 5) (.tmp 13) rfl (.pointer (some ⟨W9.heap.size, 0, none⟩)) (.agg (toldC T)) rfl rfl hst ?_)
        | (guard_target =~ (∀ f : FuncId, none = some f → _) ∧ _; refine ⟨fun f h => trivial, ?_⟩)
        | fail)
      exact ⟨KeepsFrom.of_later hL, KeepW.later hL, rfl, .inl ⟨pre', ⟨by rw [h1]; exact HTG.out, fun k hk => h3 k (by omega)⟩, hJ9⟩⟩
    · gi_wp2_with (first
        | (refine ⟨trivial, ?_⟩; gi_at_call 53; refine (CallsIn.inRound l0 (callsIn_wide.2 HTL.out)).mono ?_; rintro e W9 ⟨rfl, hL9⟩; obtain ⟨w9, hst, k9, hL9b⟩ := newTold W9 hTw; have hL : Later X w9 := Later.step hL9 hL9b; have hJ9 := HJ.out.below HJ2.out (hL.below.mono hXW); have hl2 := loadFnT (((h5.later hL).cell 0).trans rfl); have hld := loadTold hTw k9; obtain ⟨fn, tmps, assign, body, hy, hR⟩ := YieldAt.inRound (l' := l0) (k := n1 - 1 - 1 - 1) (HY.out pre' ⟨x.at_, T⟩ w9 hJ9 ⟨fun i hi => by (rw [h1] at hi; by_cases e : i = pre.length; rw [e]; exact HTG.out; exact h3 i (by omega)), by unfold tAt; rw [h1, HTA.out, HAT.out]⟩))
        | (refine ⟨trivial, fun _ => by omega, (CallsIn.inRound l0 (callsIn_wide.2 HTL.out)).mono ?_⟩; rintro e W9 ⟨rfl, hL9⟩; obtain ⟨w9, hst, k9, hL9b⟩ := newTold W9 hTw; have hL : Later X w9 := Later.step hL9 hL9b; have hJ9 := HJ.out.below HJ2.out (hL.below.mono hXW); have hl2 := loadFnT (((h5.later hL).cell 0).trans rfl); have hld := loadTold hTw k9; obtain ⟨fn, tmps, assign, body, hy, hR⟩ := YieldAt.inRound (l' := l0) (k := n1 - 1 - 1 - 1) (HY.out pre' ⟨x.at_, T⟩ w9 hJ9 ⟨fun i hi => by (rw [h1] at hi; by_cases e : i = pre.length; rw [e]; exact HTG.out; exact h3 i (by omega)), by unfold tAt; rw [h1, HTA.out, HAT.out]⟩))
        | (refine wpListIn_allocR rfl 48 rfl (allocTold _) ?_)
        | (refine wpListIn_storeR rfl 48 (.tmp 5) (.tmp 13) rfl (.pointer (some ⟨W9.heap.size, 0, none⟩)) (.agg (toldC T)) rfl rfl hst ?_)
        | (refine wpListIn_loadG rfl 114 (.tmp 2) rfl (.pointer (some ⟨q2, 0, none⟩)) rfl hl2 ?_)
        | (refine wpListIn_loadG rfl 48 (.tmp 5) rfl (.pointer (some ⟨W9.heap.size, 0, none⟩)) rfl hld ?_)
        | fail)
      refine ⟨fun _ => by omega, hR.mono ?_⟩
      have hkW : ∀ Y, KeepW D noFr w9 Y → KeepW (fun b => D b ∨ b = w3.heap.size + 1) x X Y := fun Y hk => (KeepW.later hL).trans ⟨hk.size, fun b hb hd _ => hk.block b hb (fun k => hd (.inl k)) (fun o e => by cases e)⟩
      have hkF : ∀ Y, KeepW D noFr w9 Y → KeepsFrom w3.heap.size X Y := fun Y hk => (KeepsFrom.of_later hL).trans (hk.from (fun b h => by have := hD3 b h; omega) (fun b o e => by cases e))
      have hrq := h5.later hL
      rintro e Y (⟨rfl, hJ5, hk5⟩ | ⟨rfl, hJx5, hk5⟩)
      · gi_wp2
        refine ⟨hkF Y hk5, hkW Y hk5, ⟨pre' ++ [⟨x.at_, T⟩], by simp [h1], hJ5⟩, fun i hi => ?_, hk5.row hrq (fun h => by have := hD3 _ h; omega) (fun o e => by cases e)⟩
        rw [hplen] at hi
        by_cases e : i = pre.length
        · rw [e]; exact HTG.out
        · exact h3 i (by omega)
      · gi_wp2
        exact ⟨hkF Y hk5, hkW Y hk5, rfl, .inr ⟨_, hJx5⟩⟩
  case done =>
    rintro D0 xs X hD hS ⟨⟨pre', h1, h2⟩, h3, h5⟩ hK
    gi_wp2
    rw [Exit.noGoto_normal]
    refine ⟨by simp, .inl ⟨_, _, rfl, run_takeDeferred hK, ?_⟩⟩
    refine ⟨_, results_none rfl _ _ _, ⟨_, rfl⟩, .inl ⟨pre', ⟨by rw [h1]; unfold tgo; rw [hS.1]; rfl, fun k hk => h3 k (by omega)⟩, ?_⟩⟩
    exact HJ.out.below h2 (below_put _ _ _ _ (by have := HQ2.out; omega) (by have := (Array.getElem?_eq_some_iff.1 hK).1; have := HQ2.out; omega))
  case stop =>
    rintro D0 c' pre X hD hSp ⟨rfl, hx⟩ hK
    gi_wp2
    rw [Exit.noGoto_normal]
    refine ⟨by simp, .inl ⟨_, _, rfl, run_takeDeferred hK, ?_⟩⟩
    have hbp : Below W.heap.size X (X.putObj D0 (.deferred none)) := below_put _ _ _ _ (by have := HQ2.out; omega) (by have := (Array.getElem?_eq_some_iff.1 hK).1; have := HQ2.out; omega)
    refine ⟨_, results_none rfl _ _ _, ⟨_, rfl⟩, ?_⟩
    rcases hx with ⟨xs, h1, h2⟩ | ⟨pre', h2⟩
    · exact .inl ⟨xs, h1, HJ.out.below h2 hbp⟩
    · exact .inr ⟨pre', trivial, HJx.out.below h2 hbp⟩
end Go.Proofs.YtcajhdmppfiaeaaGreat
namespace Go.Proofs.YtcajhdmppfiaeaaGreat
open Go.RowKit Ms
theorem mAll_any (A : Option Addr) (n c : Nat) (l : List UInt8) (w : World) (hn : l.length = n) (hm : n ≤ 140737488355328) (hr : Rd w A l) :
    Calls Tryz.prog 18 #[.slice A n c] w fun e w' => ∃ gs gf gd A1 c1, e = .returned (.func (.func 52) #[] #[.pointer (some ⟨gs, 0, none⟩)]) ∧ Row w' gf 32 #[.slice A1 n c1] ∧ Row w' gs 112 #[.func (.func 104) #[] #[.pointer (some ⟨gf, 0, none⟩)]] ∧ Rd w' A1 l ∧ n ≤ c1 ∧ c1 ≤ maxLen ∧ (∀ ad, A1 = some ad → ad.block = gd) ∧ w.heap.size ≤ gs ∧ w.heap.size ≤ gf ∧ w.heap.size ≤ gd ∧ gd < w'.heap.size ∧ Below w.heap.size w w' := by
  have hmf : ∀ (fn : Fn) (first cap : Array Value) (w : World), (Instr.makeFunc fn first cap).run Tryz.prog w = .ok (.func fn first cap) w := fun _ _ _ _ => rfl
  have hf := wFrames_any A n c l w hn hm hr
  refine Calls.post fun Φ HΦ => ?_
  go_enter Tryz.func18, Tryz.ntmps18
  go_upto_region 2 with (first
    | (go_at_call 51; refine hf.mono ?_; clear hf; rintro e w2 ⟨gf, gd, A1, c1, rfl, hrow, hrd, h1, h2, h3, h4, h5, h6, hb⟩)
    | fail)
  have ks := Row.new w2 112 #[.func (.func 104) #[] #[.pointer (some ⟨gf, 0, none⟩)]]
  have hL : Later w2 (w2.alloc (.cells #[.func (.func 104) #[] #[.pointer (some ⟨gf, 0, none⟩)]] 112)) := below_new w2 _
  go_wp2_with fail
  exact HΦ.out _ _ ⟨w2.heap.size, gf, gd, A1, c1, rfl, hrow.later hL, ks, hrd.later hL, h1, h2, h3, hb.size, h4, h5, Nat.lt_of_lt_of_le h6 hL.size, Later.step hb hL⟩
theorem flat_at {α : Type} (f : α → List Value) (z : Nat) : ∀ (ds : List α), (∀ x ∈ ds, (f x).length = z) → ∀ (k : Nat) (h : k < ds.length) (j : Nat), j < z → ((ds.map f).flatten)[k * z + j]? = (f ds[k])[j]?
  | d :: ds, hz, 0, _, j, hj => by
    rw [List.map_cons, List.flatten_cons, Nat.zero_mul, Nat.zero_add, List.getElem?_append_left (by rw [hz d List.mem_cons_self]; exact hj)]
    rfl
  | d :: ds, hz, k + 1, h, j, hj => by
    have ih := flat_at f z ds (fun x hx => hz x (List.mem_cons_of_mem _ hx)) k (by simpa using h) j hj
    have h1 := hz d List.mem_cons_self
    have e : (k + 1) * z = k * z + z := by rw [Nat.add_mul, Nat.one_mul]
    rw [List.map_cons, List.flatten_cons, List.getElem?_append_right (by omega), show (k + 1) * z + j - (f d).length = k * z + j by omega]
    simpa using ih
theorem flat_len {α : Type} (f : α → List Value) (z : Nat) : ∀ (ds : List α), (∀ x ∈ ds, (f x).length = z) → ((ds.map f).flatten).length = ds.length * z
  | [], _ => by simp
  | d :: ds, hz => by
    rw [List.map_cons, List.flatten_cons, List.length_append, flat_len f z ds (fun x hx => hz x (List.mem_cons_of_mem _ hx)), hz d List.mem_cons_self, List.length_cons, Nat.add_mul, Nat.one_mul, Nat.add_comm]
def tdC (x : Td) : List Value := .int .i64 x.at_ :: (toldC x.t).toList
theorem tdC_len {x : Td} (h : x.t.wf) : (tdC x).length = 335 := by
  unfold tdC
  rw [List.length_cons, Array.length_toList, toldC_size h]
theorem tdC_t {x : Td} (i : Nat) : (tdC x)[1 + i]? = (toldC x.t)[i]? := by
  unfold tdC
  rw [Nat.add_comm, List.getElem?_cons_succ, Array.getElem?_toList]
theorem tdC_one (x : Td) : ∀ u ∈ tdC x, u.oneCell' = true := fun u hu => by
  unfold tdC at hu
  rcases List.mem_cons.1 hu with rfl | hu
  · rfl
  · exact Array.all_eq_true_iff_forall_mem.1 (toldC_one x.t) u (Array.mem_toList_iff.1 hu)
def OwnTd (w : World) (base : Nat) (v : Value) (ds : List Td) : Prop := (∀ d ∈ ds, d.t.wf) ∧ w.ownsRow base 62 335 v ds.length ((ds.map tdC).flatten)
theorem OwnTd.nil (w : World) (base : Nat) : OwnTd w base (.slice none 0 0) [] := ⟨by simp, rfl, .inl ⟨rfl, rfl⟩⟩
theorem OwnTd.at_ {w : World} {base : Nat} {v : Value} {ds : List Td} (h : OwnTd w base v ds) : ∀ k, v.ownBlock = some k → base ≤ k ∧ k < w.heap.size := World.ownsRow.lt h.2
theorem OwnTd.keep {w w' : World} {base : Nat} {v : Value} {ds : List Td} (h : OwnTd w base v ds) (hk : ∀ b, b < w.heap.size → v.ownBlock = some b → w'.heap[b]? = w.heap[b]?) : OwnTd w' base v ds := by
  obtain ⟨h0, h1, h2⟩ := h
  refine ⟨h0, h1, ?_⟩
  rcases h2 with h2 | ⟨g, cap, cur, e, hb, hh, hr⟩
  · exact .inl h2
  · exact .inr ⟨g, cap, cur, e, hb, (hk g (Array.getElem?_eq_some_iff.1 hh).1 (by rw [e]; rfl)).trans hh, hr⟩
theorem OwnTd.later {w w' : World} {base : Nat} {v : Value} {ds : List Td} (h : OwnTd w base v ds) (hL : Later w w') : OwnTd w' base v ds := h.keep fun b hb _ => Below.block hL b hb
theorem OwnTd.shape {w : World} {base : Nat} {v : Value} {ds : List Td} (h : OwnTd w base v ds) : ∃ A c, v = .slice A ds.length c := by
  rcases h.2.2 with ⟨rfl, hn⟩ | ⟨g, cap, cur, rfl, hb, hh, hn, hc, hs, ht⟩
  · have : ds = [] := List.eq_nil_of_length_eq_zero hn
    subst this
    exact ⟨none, 0, rfl⟩
  · exact ⟨_, cap, rfl⟩
theorem OwnTd.get {w : World} {base n c : Nat} {A : Option Addr} {ds : List Td} (h : OwnTd w base (.slice A n c) ds) (k : Nat) (hk : k < ds.length) : ∃ b cs, A = some ⟨b, 0, none⟩ ∧ base ≤ b ∧ Row w b 62 cs ∧ cs[k * 335]? = some (.int .i64 ds[k].at_) ∧ ∀ i, i < 334 → cs[k * 335 + 1 + i]? = (toldC ds[k].t)[i]? := by
  rcases h.2.2 with ⟨e, hn⟩ | ⟨g, cap, cur, e, hb, hh, hn, hc, hs, ht⟩
  · omega
  · injection e with e1 e2 e3
    subst e1
    have hz : ∀ x ∈ ds, (tdC x).length = 335 := fun x hx => tdC_len (h.1 x hx)
    have key : ∀ j, j < 335 → cur[k * 335 + j]? = (tdC ds[k])[j]? := fun j hj => by
      have h1 := flat_at tdC 335 ds hz k hk j hj
      rw [← ht, List.getElem?_take_of_lt (by omega), Array.getElem?_toList] at h1
      exact h1
    refine ⟨g, cur, rfl, hb, hh, ?_, fun i hi => ?_⟩
    · have := key 0 (by omega)
      rw [Nat.add_zero] at this
      rw [this]
      rfl
    · rw [Nat.add_assoc, key (1 + i) (by omega), tdC_t]
theorem infoPart11 : (Tryz.prog.info? 62).map (fun i => (i.zero, i.size, i.bytes)) = some (some (Value.agg (#[Value.int .i64 0] ++ toldC noTold)), 335, 448) := by kernel_rfl
theorem wpList_append_td {w : World} {ops : Array Oper} {rest : List Oper} {o : Oper} {a : Act} {Q : Exit → Act → World → Prop} (hgd : o.guard = none) (s x : Operand)
    (ho : o.op = .call { callee := .builtin .append, args := #[s, x], argTypes := #[59, 59] })
    (base : Nat) (v : Value) (ds : List Td) (hs : a.eval s = v) (hown : OwnTd w base v ds) (b c : Nat) (d : Td) (hd : d.t.wf) (hx : a.eval x = .slice (some ⟨b, 0, none⟩) 1 c) (hr : Row w b 62 (tdC d).toArray)
    (hl : ds.length ≤ 1000000000) (hbase : base ≤ w.heap.size)
    (h : ∀ v' w', OwnTd w' base v' (ds ++ [d]) → w.grownBy w' v.ownBlock → (v'.ownBlock = v.ownBlock ∨ v'.ownBlock = some w.heap.size) → wpList Tryz.prog ops Q rest (a.put o.dst v') w') : wpList Tryz.prog ops Q (o :: rest) a w := by
  obtain ⟨i, hi, he⟩ := Option.map_eq_some_iff.1 infoPart11
  injection he with hz he
  injection he with hsz hby
  refine wpList_append_own_at w hgd s x 59 ho base 62 i _ 335 448 Tryz.underlying59 hi hz hsz hby (by show (#[Value.int .i64 0] ++ toldC noTold).size = 335; rw [Array.size_append, toldC_size noTold_wf]; rfl) (by decide) v ds.length ((ds.map tdC).flatten) hs hown.2 ⟨b, 0, none⟩ 1 c (tdC d) hx (by rw [tdC_len hd, Nat.one_mul]) (fun j u hj => ?_) (tdC_one d) (by unfold maxLen; omega) (by omega) hbase
    fun v' w' h1 h2 _ h4 => h v' w' ⟨fun x hx => by rcases List.mem_append.1 hx with h | h; exact hown.1 x h; rw [List.mem_singleton.1 h]; exact hd, by rw [List.length_append, List.map_append, List.flatten_append]; simpa using h1⟩ h2 h4
  rw [addr_add, Nat.zero_add]
  refine (hr.cell j).trans ?_
  rw [List.getElem?_toArray]
  exact hj
theorem buildPart0 (a : Int) (f : Nat → Value) (w : World) : (Instr.build 62 #[(0, .int .i64 a), (1, .agg ((List.range 334).map f).toArray)]).run Tryz.prog w = .ok (.agg (.int .i64 a :: (List.range 334).map f).toArray) w := by kernel_rfl
theorem buildPart {x : Td} (h : x.t.wf) (w : World) : (Instr.build 62 #[(0, .int .i64 x.at_), (1, .agg (toldC x.t))]).run Tryz.prog w = .ok (.agg (tdC x).toArray) w := by
  unfold tdC
  rw [array_range (toldC x.t) 334 (toldC_size h)]
  exact buildPart0 _ _ w
theorem buildParts0 (f : Nat → Value) (w : World) : (Instr.buildSlice 59 1 #[(0, .agg ((List.range 335).map f).toArray)]).run Tryz.prog w = .ok (.slice (some ⟨w.heap.size, 0, none⟩) 1 1) (w.alloc (.cells ((List.range 335).map f).toArray 62)) := by kernel_rfl
theorem buildParts {x : Td} (h : x.t.wf) (w : World) : (Instr.buildSlice 59 1 #[(0, .agg (tdC x).toArray)]).run Tryz.prog w = .ok (.slice (some ⟨w.heap.size, 0, none⟩) 1 1) (w.alloc (.cells (tdC x).toArray 62)) := by
  rw [array_range (tdC x).toArray 335 (by rw [List.size_toArray]; exact tdC_len h)]
  exact buildParts0 _ w
end Go.Proofs.YtcajhdmppfiaeaaGreat
namespace Go.Proofs.YtcajhdmppfiaeaaGreat
open Go.RowKit Ms
namespace Ms
theorem rd_go {k : Nat} {l : List UInt8} (h : tgo k l = true) : readE (Wr.rest k l) = 0 ∧ readN (Wr.rest k l) = Wr.size k l ∧ readT (Wr.rest k l) = toldOf (Wr.body k l) ∧ Wr.size k l ≠ 0 ∧ Wr.goes k l = true := by
  have h1 : Wr.goes k l = true ∧ okT (Wr.body k l) = true := by
    unfold tgo at h
    rwa [Bool.and_eq_true] at h
  have h2 : Wr.goes 0 (Wr.rest k l) = true := h1.1
  have h3 : okT (Wr.splitR (Wr.rest k l)).1 = true := h1.2
  refine ⟨?_, ?_, ?_, ?_, h1.1⟩
  · unfold readE toldE; rw [if_pos h2, if_pos h3]
  · unfold readN okFr; rw [h2, h3]; rfl
  · unfold readT; rw [if_pos h2]; rfl
  · have h4 := h1.1
    unfold Wr.goes at h4
    rw [Bool.and_eq_true] at h4
    have h5 : (Wr.splitR (Wr.rest k l)).2.1 ≠ 0 := by simpa using h4.2
    exact h5
theorem rd_stop {k : Nat} {l : List UInt8} (h : tgo k l = false) : readN (Wr.rest k l) = 0 := by
  have : okFr (Wr.rest k l) = false := h
  unfold readN
  rw [this]
  rfl
def tds (k : Nat) (l : List UInt8) : List Td := (List.range k).map fun i => tAt i l
theorem tds_len (k : Nat) (l : List UInt8) : (tds k l).length = k := by simp [tds]
theorem tds_succ (k : Nat) (l : List UInt8) : tds (k + 1) l = tds k l ++ [tAt k l] := by simp [tds, List.range_succ]
theorem tds_get (k : Nat) (l : List UInt8) (i : Nat) (h : i < (tds k l).length) : (tds k l)[i] = tAt i l := by simp [tds]
end Ms
set_option maxRecDepth 100000 in
set_option maxHeartbeats 4000000 in
theorem refAll_any (A : Option Addr) (n c : Nat) (l : List UInt8) (w : World) (hn : l.length = n) (hc : n ≤ c) (hcm : c ≤ 9223372036854775807) (hm : n ≤ 1000000000) (hr : Rd w A l) :
    Calls Tryz.prog 22 #[.slice A n c] w fun e w' => ∃ v k, e = .returned v ∧ OwnTd w' w.heap.size v (tds k l) ∧ (∀ i, i < k → tgo i l = true) ∧ tgo k l = false ∧ Later w w' := by
  refine Calls.post fun Φ HΦ => ?_
  go_enter Tryz.func22, Tryz.ntmps22
  go_wp2_with fail
  go_loopw [3, 4] (fun v t wr => ∃ k : Nat, t = .int .i64 (Wr.upto k l) ∧ OwnTd wr w.heap.size v (tds k l) ∧ (∀ i, i < k → tgo i l = true) ∧ Later w wr) (fun _ t _ => n - (intOf t).toNat)
  case atStart => exact ⟨0, by simp [Wr.upto], OwnTd.nil _ _, by simp, Later.refl _⟩
  case round =>
    obtain ⟨k, rfl, hown, hgo, hLr⟩ := hrel
    have hgo' : ∀ i, i < k → Wr.goes i l = true := fun i hi => (rd_go (hgo i hi)).2.2.2.2
    obtain ⟨u1, u2⟩ := Wr.upto_le l k hgo'
    have u3 := Wr.upto_ge l k hgo'
    have hrd := Wr.rest_drop l k hgo'
    obtain ⟨U, hU⟩ : ∃ U : Nat, Wr.upto k l = U := ⟨(Wr.upto k l).toNat, by omega⟩
    rw [hU] at u1 u2 u3 hrd ⊢
    rw [Int.toNat_natCast] at hrd
    rw [hn] at u2
    have hUn : U ≤ n := by omega
    obtain ⟨D, hs1, hD⟩ := run_slice_from (P := Tryz.prog) (t := 32) (U := 5) (A := A) (n := n) (ca := c) (k := U) Tryz.underlying32 byteInfo hUn hc
    have hsp := refRead_any D (n - U) (c - U) (Wr.rest k l) wr (by rw [hrd, List.length_drop, hn]) (by omega) (by omega) (by omega) (by rw [hrd]; exact hD wr l hn (hr.later hLr))
    have hbn := Wr.split_bounds (Wr.rest k l)
    have hus := Wr.upto_succ k l
    rw [hU] at hus
    have hTw := readT_wf (Wr.rest k l)
    have hdl : (tds k l).length ≤ 1000000000 := by rw [tds_len]; omega
    have hrl : ((Wr.rest k l).length : Int) = n - U := by omega
    have hsz : 0 ≤ Wr.size k l ∧ Wr.size k l ≤ n - U := ⟨hbn.1, by have := hbn.2.1; rw [hrl] at this; exact this⟩
    have HU := Lib.hid hU
    have HUS := Lib.hid hus
    have HGO := Lib.hid hgo
    clear hrd hU hus hgo hgo' hD hbn hrl hn
    cases htg : tgo k l
    · have hN := rd_stop htg
      rw [hN] at hsp
      generalize readE (Wr.rest k l) = er at *
      generalize readT (Wr.rest k l) = T at *
      have HSP := Lib.hid hsp
      have HTG := Lib.hid htg
      clear hsp htg hN
      by_cases he0 : er = 0
      · subst he0
        go_wp2_with (first
          | (go_at_call 21; refine HSP.out.mono ?_; rintro e w2 ⟨rfl, hL2⟩; obtain ⟨w3, hst, k3, hL3⟩ := newTold w2 hTw)
          | (with_reducible refine wpList_alloc rfl 48 rfl (allocTold _) ?_)
          | (guard_target =~ wpList _ _ _ (_ :: _) _ _; refine wpList_store rfl 48 (.tmp 5) (.tmp 13) rfl (.pointer (some ⟨w2.heap.size, 0, none⟩)) (.agg (toldC T)) rfl rfl hst ?_)
          | fail)
        exact HΦ.out _ _ ⟨_, k, rfl, (hown.later hL2).later hL3, HGO.out, HTG.out, Later.step (Later.step hLr hL2) hL3⟩
      · have hez : (er == 0) = false := by simpa using he0
        go_wp2_with (first
          | (go_at_call 21; refine HSP.out.mono ?_; rintro e w2 ⟨rfl, hL2⟩; obtain ⟨w3, hst, k3, hL3⟩ := newTold w2 hTw)
          | (with_reducible refine wpList_alloc rfl 48 rfl (allocTold _) ?_)
          | (guard_target =~ wpList _ _ _ (_ :: _) _ _; refine wpList_store rfl 48 (.tmp 5) (.tmp 13) rfl (.pointer (some ⟨w2.heap.size, 0, none⟩)) (.agg (toldC T)) rfl rfl hst ?_)
          | fail)
        exact HΦ.out _ _ ⟨_, k, rfl, (hown.later hL2).later hL3, HGO.out, HTG.out, Later.step (Later.step hLr hL2) hL3⟩
    · obtain ⟨h1, h2, h3, h4, _⟩ := rd_go htg
      have hTe : (tAt k l).t = readT (Wr.rest k l) := h3.symm
      rw [h1, h2] at hsp
      obtain ⟨q, hq⟩ : ∃ q : Nat, Wr.size k l = q := ⟨(Wr.size k l).toNat, by omega⟩
      rw [hq] at hsp hsz h4 HUS
      have hz : ((q : Int) == 0) = false := by simpa using h4
      obtain ⟨V, hV⟩ : ∃ V : Nat, (U : Int) + (q : Int) = V := ⟨U + q, by omega⟩
      have hVn : V ≤ n := by omega
      have hat : tAt k l = ⟨(V : Int), readT (Wr.rest k l)⟩ := by unfold tAt; rw [HUS.out, h3, hV]
      generalize readT (Wr.rest k l) = T at *
      have HSP := Lib.hid hsp
      have HTG := Lib.hid htg
      have HAT := Lib.hid hat
      have HQ := Lib.hid hq
      clear hsp htg h1 h2 h3 hq hat hTe
      go_wp2_with (first
        | (go_at_call 21; refine HSP.out.mono ?_; rintro e w2 ⟨rfl, hL2⟩; obtain ⟨w3, hst, k3, hL3⟩ := newTold w2 hTw; have hld := loadTold hTw k3; have hbp := buildPart (x := ⟨(V : Int), T⟩) hTw w3; have hbs := buildParts (x := ⟨(V : Int), T⟩) hTw w3)
        | (with_reducible refine wpList_alloc rfl 48 rfl (allocTold _) ?_)
        | (guard_target =~ wpList _ _ _ (_ :: _) _ _; refine wpList_store rfl 48 (.tmp 5) (.tmp 13) rfl (.pointer (some ⟨w2.heap.size, 0, none⟩)) (.agg (toldC T)) rfl rfl hst ?_)
        | (guard_target =~ wpList _ _ _ (_ :: _) _ _; refine wpList_load rfl 48 (.tmp 5) rfl (.pointer (some ⟨w2.heap.size, 0, none⟩)) rfl hld ?_)
        | (guard_target =~ wpList _ _ _ (_ :: _) _ _; refine wpList_build rfl 62 _ rfl #[(0, .int .i64 (V : Int)), (1, .agg (toldC T))] (by simp only [List.map_toArray, List.map_cons, List.map_nil]; rfl) hbp ?_)
        | (guard_target =~ wpList _ _ _ (_ :: _) _ _; refine wpList_bsG rfl 59 1 _ rfl #[(0, .agg (tdC ⟨(V : Int), T⟩).toArray)] (by simp only [List.map_toArray, List.map_cons, List.map_nil]; rfl) hbs ?_)
        | (at_builtin; refine wpList_append_td rfl (.tmp 26) (.tmp 30) rfl w.heap.size _ (tds k l) rfl (((hown.later hL2).later hL3).later ((Later.refl w3).alloc (.cells (tdC ⟨(V : Int), T⟩).toArray 62))) w3.heap.size 1 ⟨(V : Int), T⟩ hTw rfl (Row.new w3 _ _) hdl (by have := hLr.size; have := hL2.size; have := hL3.size; simp; omega) ?_; intro v3 w4 hown3 hg3 hat3)
        | fail)
      have hL2a := ((Later.step (Later.step hLr hL2) hL3)).alloc (.cells (tdC ⟨(V : Int), T⟩).toArray 62)
      have hL4 : Later w w4 := hL2a.grown hg3 hL2a.size (fun j e => (hown.at_ j e).1)
      go_roundw
      case rel => exact ⟨k + 1, by rw [HUS.out, hV], by rw [tds_succ, HAT.out]; exact hown3, fun i hi => by (by_cases e : i = k; rw [e]; exact HTG.out; exact HGO.out i (by omega)), hL4⟩
      case measure => simp [intOf]; omega
end Go.Proofs.YtcajhdmppfiaeaaGreat
namespace Go.Proofs.YtcajhdmppfiaeaaGreat
open Go.RowKit Ms
theorem Row.upto {w w' : World} {g M : Nat} {t : TypeId} {cs : Array Value} (h : Row w g t cs) (hb : Below M w w') (hg : g < M) : Row w' g t cs := (hb.block g hg).trans h
structure TG (w1 : World) (M q r : Nat) (many : Int) (gs gf gd : Nat) (A7 : Option Addr) (n c7 : Nat) (s : List UInt8) (q18 bp : Nat) (A18 : Option Addr) (K c18 : Nat) (ds : List Td) (W : World) : Prop where
  size : M ≤ W.heap.size
  k5 : Row W (q + 1) 3 #[.int .i64 many]
  k6 : Row W r 4 #[.bool false]
  kf : Row W gf 32 #[.slice A7 n c7]
  ks : Row W gs 112 #[.func (.func 104) #[] #[.pointer (some ⟨gf, 0, none⟩)]]
  rd7 : Rd W A7 s
  k18 : Row W q18 59 #[.slice A18 K c18]
  own18 : OwnTd W bp (.slice A18 K c18) ds
  lat : Later w1 W
  hq : q + 1 < M
  hr : r < M
  hf : gf < M
  hs : gs < M
  hg : ∀ ad, A7 = some ad → ad.block = gd
  hgd : gd < M
  h18 : q18 < M
  hown : ∀ k, Value.ownBlock (.slice A18 K c18) = some k → k < M
  h1 : w1.heap.size ≤ M
theorem TG.below {w1 : World} {M q r : Nat} {many : Int} {gs gf gd : Nat} {A7 : Option Addr} {n c7 : Nat} {s : List UInt8} {q18 bp : Nat} {A18 : Option Addr} {K c18 : Nat} {ds : List Td} {W W' : World}
    (h : TG w1 M q r many gs gf gd A7 n c7 s q18 bp A18 K c18 ds W) (hb : Below M W W') : TG w1 M q r many gs gf gd A7 n c7 s q18 bp A18 K c18 ds W' where
  size := Nat.le_trans h.size hb.size
  k5 := h.k5.upto hb (by have := h.hq; omega)
  k6 := h.k6.upto hb h.hr
  kf := h.kf.upto hb h.hf
  ks := h.ks.upto hb h.hs
  rd7 := h.rd7.same (Same.of_below hb) fun b o e _ => by have := h.hg _ e; have := h.hgd; simp only at *; omega
  k18 := h.k18.upto hb h.h18
  own18 := h.own18.keep fun b _ e => hb.block b (h.hown b e)
  lat := h.lat.trans (hb.mono h.h1)
  hq := h.hq
  hr := h.hr
  hf := h.hf
  hs := h.hs
  hg := h.hg
  hgd := h.hgd
  h18 := h.h18
  hown := h.hown
  h1 := h.h1
section
variable {P : Program} {W : World}
theorem geqI {t : TypeId} {k : IntKind} {i j : Int} (h : i < j) : (binOp .geq t (.int k i) (.int k j)).run P W = .ok (.bool false) W := by
  have h1 : decide (j ≤ i) = false := decide_eq_false (by omega)
  go_simp
theorem neqI_me (t : TypeId) (k : IntKind) (i : Int) : (binOp .neq t (.int k i) (.int k i)).run P W = .ok (.bool false) W := by rw [neqI, bne_self_eq_false]
end
theorem neqBme (b : Bool) (W : World) : (binOp .neq 4 (.bool b) (.bool b)).run Tryz.prog W = .ok (.bool false) W := by
  cases b <;> kernel_rfl
theorem loadParts {b o m c : Nat} {S : Option Addr} {W : World} (hc : W.cell? ⟨b, o, none⟩ = some (.slice S m c)) : (Instr.loadAt 59 (.pointer (some ⟨b, o, none⟩))).run Tryz.prog W = .ok (.slice S m c) W := by
  go_simp
theorem infoPart11s : (Tryz.prog.info? 62).map (·.size) = some 335 := by kernel_rfl
theorem idxTd {b n c i : Nat} (W : World) (h : i < n) : (Instr.indexAt 59 (.slice (some ⟨b, 0, none⟩) n c) (.int .i64 (i : Int))).run Tryz.prog W = .ok (.pointer (some ⟨b, i * 335, none⟩)) W := by
  have h1 : (i : Int) < (n : Int) := by omega
  have h2 : (0 : Int) ≤ (i : Int) := by omega
  have h3 := infoPart11s
  go_simp
theorem fieldTd0 {b o : Nat} (W : World) : (Instr.fieldAt 62 (.pointer (some ⟨b, o, none⟩)) 0).run Tryz.prog W = .ok (.pointer (some ⟨b, o, none⟩)) W := by
  go_simp
theorem fieldTd1 {b o : Nat} (W : World) : (Instr.fieldAt 62 (.pointer (some ⟨b, o, none⟩)) 1).run Tryz.prog W = .ok (.pointer (some ⟨b, o + 1, none⟩)) W := by
  go_simp
theorem neqToldMe {t : Tell} (h : t.wf) (W : World) : (binOp .neq 48 (.agg (toldC t)) (.agg (toldC t))).run Tryz.prog W = .ok (.bool false) W := by
  rw [neqTold h h, decide_eq_true rfl]
  rfl
theorem eqlSeqNil {W : World} (fn : Fn) (a b : Array Value) : (binOp .eql 51 (.func fn a b) .nilFunc).run Tryz.prog W = .ok (.bool false) W := by
  first | kernel_rfl | rfl
theorem leaveX2 {q D D' : Nat} {w X W : World} (hK : X.heap[D]? = some (.deferred (some []))) (hK' : X.heap[D']? = some (.deferred (some []))) (hb : Below w.heap.size w X) (k6 : Row W q 4 #[.bool false]) (hL : Later X W) (hqD : q < D) (hqD' : q < D') (hq : w.heap.size ≤ q) :
    (W.setCell ⟨q, 0, none⟩ (.bool true)).heap[D]? = some (.deferred (some [])) ∧ (W.setCell ⟨q, 0, none⟩ (.bool true)).heap[D']? = some (.deferred (some [])) ∧
      (((W.setCell ⟨q, 0, none⟩ (.bool true)).putObj D (.deferred none)).putObj D' (.deferred none)).cell? ⟨q, 0, none⟩ = some (.bool true) ∧
      Below w.heap.size w (((W.setCell ⟨q, 0, none⟩ (.bool true)).putObj D (.deferred none)).putObj D' (.deferred none)) := by
  have hs := hb.size
  have hs2 := hL.size
  have hB : Below w.heap.size w (W.setCell ⟨q, 0, none⟩ (.bool true)) := (hb.trans (hL.mono hs)).setCell (p := ⟨q, 0, none⟩) hq _
  have key : ∀ E, q < E → X.heap[E]? = some (.deferred (some [])) → (W.setCell ⟨q, 0, none⟩ (.bool true)).heap[E]? = some (.deferred (some [])) := fun E hE hKE =>
    (Below.heap_setCell W ⟨q, 0, none⟩ _ E (by show E ≠ q; omega)).trans ((Below.block hL E (Array.getElem?_eq_some_iff.1 hKE).1).trans hKE)
  have hB2 := hB.trans (below_put w.heap.size (W.setCell ⟨q, 0, none⟩ (.bool true)) D (.deferred none) (by omega) hB.size)
  refine ⟨key D hqD hK, key D' hqD' hK', ?_, hB2.trans (below_put _ _ _ _ (by omega) hB2.size)⟩
  refine (World.cell?_of_block (w := (W.setCell ⟨q, 0, none⟩ (.bool true)).putObj D (.deferred none)) (a := ⟨q, 0, none⟩) (World.putObj_heap_other (by show q ≠ D'; omega))).trans ?_
  exact (World.cell?_of_block (w := W.setCell ⟨q, 0, none⟩ (.bool true)) (a := ⟨q, 0, none⟩) (World.putObj_heap_other (by show q ≠ D; omega))).trans (((k6.set 0 (.bool true)).cell 0).trans rfl)
theorem leaveM2 {F : Fence} {n : Nat} {P : Program} {fn : Func} {R : Ending → World → Prop} {T : Array Value} {D D' : Nat} {w : World} {v : Value} (hne : D' ≠ D) (hD : w.heap[D]? = some (.deferred (some []))) (hD' : w.heap[D']? = some (.deferred (some [])))
    (h : (results fn T).run P ((w.putObj D (.deferred none)).putObj D' (.deferred none)) = .ok v ((w.putObj D (.deferred none)).putObj D' (.deferred none))) (hR : R (.returned v) ((w.putObj D (.deferred none)).putObj D' (.deferred none))) :
    bodyPostM F n P fn R .ret { tmps := T, defers := [{ target := .collected D, args := #[] }, { target := .collected D', args := #[] }] } w :=
  ⟨by simp, .inl ⟨_, _, rfl, run_takeDeferred hD, by simp, .inl ⟨_, _, rfl, run_takeDeferred ((World.putObj_heap_other hne).trans hD'), v, h, hR⟩⟩⟩
end Go.Proofs.YtcajhdmppfiaeaaGreat
namespace Go.Proofs.YtcajhdmppfiaeaaGreat
open Go.RowKit Ms
attribute [local go_sem] Oper.semAt_some
theorem yielded_undef {ops : Array Oper} {a : Act} {j : Nat} {t : Tmp} (ht : dstOf ops j = some t) (h : a.eval (.tmp t) = undef) (b : Bool) : yielded ops a.tmps j ≠ some b := by
  unfold yielded
  unfold dstOf at ht
  cases hj : ops[j]? with
  | none => simp
  | some o =>
    rw [hj] at ht
    simp only [Option.bind_some] at ht
    have h2 : a.tmps[t]?.getD undef = undef := by simpa [Act.eval] using h
    simp only [Option.bind_some, ht]
    rcases hv : a.tmps[t]? with _ | v
    · simp
    · rw [hv] at h2
      have h3 : v = undef := h2
      subst h3
      simp [undef]
theorem stepOk_undef {P : Program} {ops : Array Oper} {Q : Exit → Act → World → Prop} {o : Oper} {a : Act} {W : World} {R : Value → World → Prop} {j : Nat} {t : Tmp} {b : Bool} (hg : o.guard = some (j, b)) (ht : dstOf ops j = some t) (he : a.eval (.tmp t) = undef) (h : R undef W) : StepOk P ops Q o a W R := by
  unfold StepOk
  rw [if_neg (by unfold Region.wanted; rw [hg]; simpa using yielded_undef ht he b)]
  exact h
theorem split_e (l : List UInt8) : 0 ≤ (Wr.splitR l).2.2 ∧ (Wr.splitR l).2.2 ≤ 1000 := by
  unfold Wr.splitR
  repeat' split
  all_goals simp
theorem readE_in (l : List UInt8) : 0 ≤ readE l ∧ readE l ≤ 1000000 := by
  have h := split_e l
  unfold readE toldE
  split
  · split <;> omega
  · omega
theorem own_rd {U : TypeId} {w : World} {base : Nat} {v : Value} {l : List UInt8} (h : Own U w base v l) : ∃ A c, v = .slice A l.length c ∧ l.length ≤ c ∧ Rd w A l := by
  obtain ⟨A, c, e, h1, _, h2⟩ := h.slice
  exact ⟨A, c, e, h1, h2⟩
theorem eqlI20 (W : World) : (binOp .eql 3 (.int .i64 2) (.int .i64 0)).run Tryz.prog W = .ok (.bool false) W := by kernel_rfl
theorem neqI20 (W : World) : (binOp .neq 3 (.int .i64 2) (.int .i64 0)).run Tryz.prog W = .ok (.bool true) W := by kernel_rfl
set_option maxRecDepth 100000 in
set_option maxHeartbeats 32000000 in
theorem msgsReads_main (t : Tell) (ht : t.wf) (hm : t.s.route.length ≤ 9223372036854775807) (hfw : decide (t.s.route.length ≤ 600) = true) (A : Option Addr) (n c : Nat) (l : List UInt8) (many : Int) (w : World) (hn : l.length = n) (hnm : n ≤ 2000) (hc : n ≤ c) (hcm : c ≤ 9223372036854775807) (hr : Rd w A l) (hmany : -9223372036854775808 ≤ many ∧ many ≤ 9223372036854775807) :
    Calls Tryz.prog 7 #[.agg (toldC t), .slice A n c, .int .i64 many] w fun e w' => e = .returned (.bool true) ∧ Below w.heap.size w w' := by
  refine Calls.post fun Φ HΦ => ?_
  have k3 := ((Row.new w 48 (toldC t)).alloc (.cells #[.int .i64 many] 3)).alloc (.cells #[.bool false] 4)
  have k5 := (Row.new (w.alloc (.cells (toldC t) 48)) 3 #[.int .i64 many]).alloc (.cells #[.bool false] 4)
  have k6 := Row.new ((w.alloc (.cells (toldC t) 48)).alloc (.cells #[.int .i64 many] 3)) 4 #[.bool false]
  have hL1 := (((Later.refl w).alloc (.cells (toldC t) 48)).alloc (.cells #[.int .i64 many] 3)).alloc (.cells #[.bool false] 4)
  have hbx := boxTold ht w
  simp only [World.size_alloc] at k5 k6
  have HN := Lib.hid hn
  have HFW := Lib.hid (fun W => hfw ▸ few_any t.s ht.2 hm W)
  have HRT := Lib.hid (fun W => refRight_any t.s ht.2 hm W)
  have HRAW := Lib.hid (fun W => mraw_any t ht hm W)
  have HHT := Lib.hid ht
  have HREF := Lib.hid (fun (h : Ms.right t.s = true) W => refRaw_any t ht h W)
  clear hn hfw hm ht
  refine (callsIn_wide (n := 12)).1 ?_
  refine callsIn_of_wp_marks Tryz.func7 rfl trivial ?_ rfl
  simp only [Tryz.ntmps7, List.size_toArray, List.length_cons, List.length_nil, Nat.reduceAdd, Nat.reduceSub, Array.replicate_succ, Array.replicate_zero, List.push_toArray, List.append_toArray, List.nil_append, List.cons_append]
  refine wpIn_wide.2 ?_
  have d1 : decide ((2000 : Int) < (n : Int)) = false := decide_eq_false (by omega)
  have d1' : decide (2000 < n) = false := decide_eq_false (by omega)
  go_upto_region 1 with fail
  obtain ⟨q, hq⟩ : ∃ q, q = w.heap.size := ⟨_, rfl⟩
  rw [← hq] at k3 k5 k6 ⊢
  obtain ⟨r, hrr⟩ : ∃ r, r = q + 1 + 1 := ⟨_, rfl⟩
  rw [← hrr] at k6 ⊢
  have HRR := Lib.hid hrr
  clear hrr
  have HQ := Lib.hid hq
  clear hq hbx
  generalize ((w.alloc (.cells (toldC t) 48)).alloc (.cells #[.int .i64 many] 3)).alloc (.cells #[.bool false] 4) = w1 at *
  have hq1 := k6.lt
  have hldS := loadToldS HHT.out k3
  have hf1 := fun W => fieldTold1 (g := q) (o := 0) (W := W)
  go_upto_region 3 with (first
    | (guard_target =~ wpList _ _ _ (_ :: _) _ _; refine wpList_load rfl 29 (.tmp 23) rfl (.pointer (some ⟨q, 32, none⟩)) rfl hldS ?_)
    | (go_at_call 8; refine (HFW.out _).mono ?_; rintro e w2 ⟨rfl, hL2⟩)
    | fail)
  clear hldS d1 d1' HFW
  have hldT := loadTold HHT.out (k3.later hL2)
  go_upto_region 4 with (first
    | (guard_target =~ wpList _ _ _ (_ :: _) _ _; refine wpList_load rfl 48 (.tmp 3) rfl (.pointer (some ⟨q, 0, none⟩)) rfl hldT ?_)
    | (go_at_call 17; refine (HRAW.out _).mono ?_; rintro e w3 ⟨v7, rfl, hown7, hL3⟩; obtain ⟨A7, c7, e7, hc7, hcm7, hrd7⟩ := hown7.slice; subst e7)
    | fail)
  have hL13 : Later w1 w3 := hL2.step hL3
  have k33 := k3.later hL13
  clear hldT hown7 hL2 hL3 HRAW hf1 k3
  obtain ⟨rb, hrb⟩ : ∃ b, Ms.right t.s = b := ⟨_, rfl⟩
  have hE : bodyE t.s = if rb = true then 0 else 2 := by unfold bodyE; rw [hrb]
  have hR7 : rawR t = if rb = true then rawOf t else [] := by unfold rawR; rw [hrb]
  rw [hE]
  rw [hR7] at hrd7 hc7 ⊢
  rw [hrb] at HRT HREF
  have HRB := Lib.hid hrb
  clear hE hR7 hrb
  obtain ⟨L7, hL7⟩ : ∃ L, (if rb = true then rawOf t else []) = L := ⟨_, rfl⟩
  rw [hL7] at hrd7 hc7 ⊢
  obtain ⟨N7, hN7⟩ : ∃ N, L7.length = N := ⟨_, rfl⟩
  rw [hN7] at hc7 ⊢
  obtain ⟨E8, hE8⟩ : ∃ E : Int, (if rb = true then 0 else 2) = E := ⟨_, rfl⟩
  rw [hE8]
  have HL7 := Lib.hid hL7
  have HN7 := Lib.hid hN7
  have HE8 := Lib.hid hE8
  clear hL7 hN7 hE8
  refine name_frame fun T0 hT0 => ?_
  rename_i K4 hK4
  have hrest : ∀ (u38 u39 u40 u41 u42 u43 u44 u45 u46 u47 u48 u49 u50 u51 u52 u53 u54 u55 u56 u57 u58 u59 u60 u61 u62 u63 u64 u65 u66 u67 u68 u69 u70 u71 : Value) (X : World), Later w3 X → K4 { tmps := (((((((((((((((((((((((((((((((((((T0).setIfInBounds 38 u38).setIfInBounds 39 u39).setIfInBounds 40 u40).setIfInBounds 41 u41).setIfInBounds 42 u42).setIfInBounds 43 u43).setIfInBounds 44 u44).setIfInBounds 45 u45).setIfInBounds 46 u46).setIfInBounds 47 u47).setIfInBounds 48 u48).setIfInBounds 49 u49).setIfInBounds 50 u50).setIfInBounds 51 u51).setIfInBounds 52 u52).setIfInBounds 53 u53).setIfInBounds 54 u54).setIfInBounds 55 u55).setIfInBounds 56 u56).setIfInBounds 57 u57).setIfInBounds 58 u58).setIfInBounds 59 u59).setIfInBounds 60 u60).setIfInBounds 61 u61).setIfInBounds 62 u62).setIfInBounds 63 u63).setIfInBounds 64 u64).setIfInBounds 65 u65).setIfInBounds 66 u66).setIfInBounds 67 u67).setIfInBounds 68 u68).setIfInBounds 69 u69).setIfInBounds 70 u70).setIfInBounds 71 u71).setIfInBounds 72 (.bool false), defers := [] } X := by
    intro u38 u39 u40 u41 u42 u43 u44 u45 u46 u47 u48 u49 u50 u51 u52 u53 u54 u55 u56 u57 u58 u59 u60 u61 u62 u63 u64 u65 u66 u67 u68 u69 u70 u71 X hLX
    refine hK4 _ _ ?_
    rw [hT0]
    simp only [List.setIfInBounds_toArray, List.set_cons_succ, List.set_cons_zero]
    clear hT0 hK4
    clear HRT HREF k33 hrd7 hc7 hcm7 HRB HL7 HN7 HE8
    have hL1X := hL13.step hLX
    have k5X := k5.later hL1X
    have k6X := k6.later hL1X
    have hrX := (hr.later hL1).later hL1X
    have hrd1 := mread_any A n c l X HN.out hc hcm (by omega) hrX
    obtain ⟨T9, hT9⟩ : ∃ T, readT l = T := ⟨_, rfl⟩
    obtain ⟨N9, hN9⟩ : ∃ T, readN l = T := ⟨_, rfl⟩
    obtain ⟨E9, hE9⟩ : ∃ T, readE l = T := ⟨_, rfl⟩
    have hTw : T9.wf := hT9 ▸ readT_wf l
    have hE9b : 0 ≤ E9 ∧ E9 ≤ 1000000 := hE9 ▸ readE_in l
    have hrd2 := fun W (h : Rd W A l) => refRead_any A n c l W HN.out hc hcm (by omega) h
    rw [hT9, hN9, hE9] at hrd1
    simp only [hT9, hN9, hE9] at hrd2
    have HRD1 := Lib.hid hrd1
    have HRD2 := Lib.hid hrd2
    clear hrd1 hrd2 hT9 hN9 hE9 k5 k6 hLX hL13
    go_upto_region 7 with (first
      | (go_at_call 20; refine HRD1.out.mono ?_; rintro e w6 ⟨rfl, hL6⟩; obtain ⟨w7, hst, k9, hL7⟩ := newTold w6 hTw)
      | (with_reducible refine wpList_alloc rfl 48 rfl (allocTold _) ?_)
      | (guard_target =~ wpList _ _ _ (_ :: _) _ _; refine wpList_store rfl 48 (.tmp 9) (.tmp 76) rfl (.pointer (some ⟨w6.heap.size, 0, none⟩)) (.agg (toldC T9)) rfl rfl hst ?_)
      | fail)
    obtain ⟨q9, hq9⟩ : ∃ q, q = w6.heap.size := ⟨_, rfl⟩
    rw [← hq9] at k9 ⊢
    have hLX7 : Later X w7 := Later.step hL6 hL7
    have hrX7 := hrX.later hLX7
    have HF := Lib.hid (HRD2.out w7 hrX7)
    clear hst hq9 hL6 hL7 HRD1 HRD2
    go_upto_region 8 with (first
      | (go_at_call 21; refine HF.out.mono ?_; rintro e w8 ⟨rfl, hL8⟩; obtain ⟨w9, hst, k12, hL9⟩ := newTold w8 hTw)
      | (with_reducible refine wpList_alloc rfl 48 rfl (allocTold _) ?_)
      | (guard_target =~ wpList _ _ _ (_ :: _) _ _; refine wpList_store rfl 48 (.tmp 12) (.tmp 82) rfl (.pointer (some ⟨w8.heap.size, 0, none⟩)) (.agg (toldC T9)) rfl rfl hst ?_)
      | fail)
    obtain ⟨q12, hq12⟩ : ∃ q, q = w8.heap.size := ⟨_, rfl⟩
    rw [← hq12] at k12 ⊢
    have hL79 : Later w7 w9 := Later.step hL8 hL9
    have HL9 := Lib.hid (loadTold hTw (k9.later hL79))
    have HL12 := Lib.hid (loadTold hTw k12)
    have HNE := Lib.hid (neqToldMe hTw w9)
    have HNUM := Lib.hid (num_n E9 w9 hE9b)
    have hL1_9 : Later w1 w9 := hL1X.step (hLX7.step hL79)
    have hr9 := hrX7.later hL79
    have k59 := (k5X.later hLX7).later hL79
    have k69 := (k6X.later hLX7).later hL79
    have hnN := neqI_me (P := Tryz.prog) (W := w9) 3 .i64 N9
    have hnE := neqI_me (P := Tryz.prog) (W := w9) 3 .i64 E9
    clear hst hq12 hL8 hL9 hL79 hLX7 hrX hrX7 k9 k12 k5X k6X hL1X HF hTw
    go_upto_region 10 with (first
      | (guard_target =~ wpList _ _ _ (_ :: _) _ _; refine wpList_load rfl 48 (.tmp 9) rfl (.pointer (some ⟨q9, 0, none⟩)) rfl HL9.out ?_)
      | (guard_target =~ wpList _ _ _ (_ :: _) _ _; refine wpList_load rfl 48 (.tmp 12) rfl (.pointer (some ⟨q12, 0, none⟩)) rfl HL12.out ?_)
      | (guard_target =~ wpList _ _ _ (_ :: _) _ _; refine wpList_binG rfl .neq 48 _ (.tmp 85) (.tmp 86) rfl (.agg (toldC T9)) (.agg (toldC T9)) rfl rfl (eqgTold _ _ _ _ _ _) HNE.out ?_)
      | (go_at_call 12; refine HNUM.out.mono ?_; rintro e w10 ⟨rfl, rfl⟩)
      | fail)
    clear HL9 HL12 HNE HNUM hnN hnE
    go_upto_region 11 with (first
      | (at_builtin; refine wpList_append_bytes rfl (.tmp 99) (.tmp 100) 32 rfl w10.heap.size 5 Tryz.underlying32 byteInfo _ [] rfl (own_void w10 _ _ (Nat.le_refl _)) A n c l rfl HN.out (hr9.alloc _) (by simp; omega) (by simp only [World.size_alloc]; omega) ?_; intro v15 w11 hown hg11 hat11; rw [List.nil_append] at hown; have hL11 : Later w10 w11 := (below_new w10 (.cells #[] 5)).grown hg11 (by simp only [World.size_alloc]; omega) (fun j e => (own_void w10 5 w10.heap.size (Nat.le_refl _)).at_ j e |>.1))
      | fail)
    have hx11 := hown.xrow
    have hat15 := hown.at_
    obtain ⟨A15, c15, e15, hc15, hcm15, hrd15⟩ := hown.slice
    subst e15
    rw [HN.out] at hx11 hc15 ⊢
    have hall := mAll_any A15 n c15 l w11 HN.out (by omega) hrd15
    have HALL := Lib.hid hall
    have hL1_11 : Later w1 w11 := hL1_9.step hL11
    have k511 := k59.later hL11
    have k611 := k69.later hL11
    have hr11 := hr9.later hL11
    have hs0 := hL1_9.size
    clear hall hown hg11 hat11 hrd15 hr9 k59 k69 hL1_9
    go_upto_region 12 with (first
      | (go_at_call 18; refine HALL.out.mono ?_; rintro e w12 ⟨gs, gf, gd, A16, c16, rfl, kf, ks, hrd16, hc16, hcm16, hgb, hgs1, hgf1, hgd1, hgd2, hL12⟩)
      | fail)
    have hL1_12 : Later w1 w12 := hL1_11.step hL12
    have k512 := k511.later hL12
    have k612 := k611.later hL12
    have hr12 := hr11.later hL12
    have hx12 := hx11.below hL12
    have hs12 := hL12.size
    have hs11 := hL11.size
    have hs1 := hL1_11.size
    clear HALL hL12 hx11 k511 k611 hr11 hL11 hL1_11
    go_wp2_with fail
    go_loopw [17] (fun tt wr => ∃ j : Nat, j ≤ n ∧ tt = .int .i64 (j : Int) ∧ XRow 5 wr w10.heap.size (.slice A15 n c15) n ∧ Same (fun k => ¬ (w10.heap.size ≤ k ∧ k < w11.heap.size)) w12 wr) (fun tt _ => n - (intOf tt).toNat)
    case atStart => exact ⟨0, by omega, rfl, hx12, Same.refl _ _⟩
    case round =>
      obtain ⟨jj, hj, rfl, hx, hsm⟩ := hrel
      by_cases hltj : jj < n
      · have hd : decide ((jj : Int) < (n : Int)) = true := decide_eq_true (by omega)
        have hd' : decide (jj < n) = true := decide_eq_true hltj
        rcases hx with hx | ⟨g4, cap4, cs, e4, hg4, hrow4, hsz4, hcs4⟩
        · omega
        · injection e4 with e4 _ e5
          subst e4
          have hg4b := (hat15 g4 rfl).2
          obtain ⟨y, hy⟩ := hcs4 jj hltj
          have hc4 : wr.cell? ⟨g4, jj, none⟩ = some (.int .u8 (y.toNat : Int)) := (hrow4.cell jj).trans hy
          have hf4 := hrow4.frozen jj
          have hy8 := y.toNat_lt
          have HCS := Lib.hid hcs4
          clear hy hcs4 hx12
          go_wp2_with fail
          go_roundw
          case rel =>
            refine ⟨jj + 1, by omega, by go_num, .inr ⟨g4, cap4, _, by rw [e5], hg4, hrow4.set jj _, by simpa using hsz4, ?_⟩, hsm.trans ((Same.set wr ⟨g4, jj, none⟩ _).mono fun k hk => by show k ≠ g4; intro e; subst e; exact hk ⟨hg4, hg4b⟩)⟩
            intro k hk
            by_cases e : jj = k
            · subst e
              refine ⟨UInt8.ofNat (y.toNat + 1), ?_⟩
              rw [Array.getElem?_setIfInBounds_self, if_pos (by omega), byteV, UInt8.toNat_ofNat']
              congr 2
            · rw [Array.getElem?_setIfInBounds_ne e]
              exact HCS.out k hk
          case measure => simp [intOf]; omega
      · obtain rfl : jj = n := by omega
        have hL1r : Later w1 wr := ((Same.of_below hL1_12).trans (hsm.mono fun k (hk : k < w1.heap.size) h => by omega)).below
        have k5r := k512.same hsm (by have := k512.lt; intro h; have := hq1; have := HRR.out; omega)
        have k6r := k612.same hsm (by intro h; have := hq1; omega)
        have kfr := kf.same hsm (by intro h; omega)
        have ksr := ks.same hsm (by intro h; omega)
        have hrd16r := hrd16.same hsm (fun b o e _ => by have := hgb _ e; simp only at this; intro h; omega)
        have hrr1 := (hr.later hL1).later hL1r
        have hall := refAll_any A jj c l wr HN.out hc hcm (by omega) hrr1
        have HALL := Lib.hid hall
        have hsr := hsm.size
        clear hx hsm hx12 hr12 k512 k612 kf ks hrd16 hall hL1_12
        go_upto_region 17 with (first
          | (go_at_call 22; refine HALL.out.mono ?_; rintro e w13 ⟨v18, K, rfl, hown18, hgo, hgK, hL13b⟩; obtain ⟨A18, c18, rfl⟩ := hown18.shape; rw [tds_len] at hown18 ⊢)
          | fail)
        clear HALL
        have hat18 := fun k e => (hown18.at_ k e).2
        have k18 := Row.new w13 59 #[.slice A18 K c18]
        have hLa := (Later.refl w13).alloc (.cells #[.slice A18 K c18] 59)
        have hlt18 := k18.lt
        have hs89 := hL13b.size
        have hsz10 : (w13.alloc (.cells #[.slice A18 K c18] 59)).heap.size = w13.heap.size + 1 := by simp
        obtain ⟨q18, hq18⟩ : ∃ x, x = w13.heap.size := ⟨_, rfl⟩
        rw [← hq18] at k18 hsz10 hlt18 hs89 hat18 ⊢
        have hLr10 := Later.step hL13b hLa
        have hs1r := hL1r.size
        have hgs13 := ksr.lt
        have hgf13 := kfr.lt
        have hgd13 : gd < wr.heap.size := by omega
        have hq1r := k6r.lt
        have tf0 : TG w1 (q18 + 1) q r many gs gf gd A16 jj c16 l q18 wr.heap.size A18 K c18 (tds K l) (w13.alloc (.cells #[.slice A18 K c18] 59)) :=
          { size := by omega
            k5 := k5r.later hLr10
            k6 := k6r.later hLr10
            kf := kfr.later hLr10
            ks := ksr.later hLr10
            rd7 := hrd16r.later hLr10
            k18 := k18
            own18 := hown18.later hLa
            lat := hL1r.step hLr10
            hq := by have := HRR.out; omega
            hr := by omega
            hf := by omega
            hs := by omega
            hg := hgb
            hgd := by omega
            h18 := by omega
            hown := fun k e => by have := hat18 k e; omega
            h1 := by omega }
        have HQ18 := Lib.hid hq18
        clear k5r k6r kfr ksr hrd16r hLa hlt18 hq18 hLr10 hL1r hL13b hown18 k18 hsz10 hrr1 hgs13 hgf13 hgd13 hq1r
        generalize w13.alloc (.cells #[.slice A18 K c18] 59) = w14 at *
        go_wp2_with fail
        have k19 := Row.new w14 3 #[.int .i64 0]
        have hb15 : Below (q18 + 1) w14 (w14.alloc (.cells #[.int .i64 0] 3)) := (Below.refl _ _).alloc tf0.size _
        have tf := tf0.below hb15
        obtain ⟨q19, hq19⟩ : ∃ x, x = w14.heap.size := ⟨_, rfl⟩
        rw [← hq19] at k19 ⊢
        have hq19M : q18 + 1 ≤ q19 := by rw [hq19]; exact tf0.size
        clear hq19 hb15 tf0
        generalize w14.alloc (.cells #[.int .i64 0] 3) = w15 at *
        have HGO := Lib.hid hgo
        have HGK := Lib.hid hgK
        clear hgo hgK
        refine wp_loop_rounds 3 ?_
        rw [rounds_succ]
        obtain ⟨m1, hm1⟩ : ∃ m, (if 1 < many then many else 1) = m := ⟨_, rfl⟩
        obtain ⟨Z, hz⟩ : ∃ Z : Nat, (if m1 < (K : Int) then m1 else (K : Int)) = (Z : Int) := ⟨(if m1 < (K : Int) then m1 else (K : Int)).toNat, by split at hm1 <;> split <;> omega⟩
        have hzd : (K = 0 ∨ (K : Int) < many) → Z = K := by intro h; split at hm1 <;> split at hz <;> omega
        have hze : ∀ k, k + 1 ≤ K → (k = 0 ∨ (k : Int) < many) → many ≤ (k : Int) + 1 → k + 1 = Z := by intro k h1 h2 h3; split at hm1 <;> split at hz <;> omega
        have HZD := Lib.hid hzd
        have HZE := Lib.hid hze
        have HM1 := Lib.hid hm1
        have HZ := Lib.hid hz
        clear hzd hze hm1 hz
        have c19 : w15.cell? ⟨q19, 0, none⟩ = some (.int .i64 0) := (k19.cell 0).trans rfl
        have hnil := fun X => eqlSeqNil (W := X) (.func 52) #[] #[.pointer (some ⟨gs, 0, none⟩)]
        have hq19l := k19.lt
        go_wp2_with fail
        have k20 := Row.new w15 3 #[.int .i64 0]
        have hbA : Below (q18 + 1) w15 (w15.alloc (.cells #[.int .i64 0] 3)) := (Below.refl _ _).alloc tf.size _
        have tfA := tf.below hbA
        have k19A := k19.alloc (.cells #[.int .i64 0] 3)
        have hszA : (w15.alloc (.cells #[.int .i64 0] 3)).heap.size = w15.heap.size + 1 := by simp
        obtain ⟨q20, hq20⟩ : ∃ x, x = w15.heap.size := ⟨_, rfl⟩
        rw [← hq20] at k20 hszA hq19l ⊢
        generalize w15.alloc (.cells #[.int .i64 0] 3) = WA at *
        have hlt20 := k20.lt
        clear tf k19 hbA hq20 c19 hnil
        have hseq := mall1_seq l gs gf gd A16 jj c16 WA 11 (by omega) (fun b => b = q20 ∨ b = WA.heap.size + 1) (by rintro b (h | h) <;> omega) (by have := tfA.hs; rintro (h | h) <;> omega) (by have := tfA.hf; rintro (h | h) <;> omega) (by have := tfA.hgd; rintro (h | h) <;> omega) HN.out hc16 (by unfold maxLen at hcm16; omega) (by omega) tfA.rd7 tfA.hg tfA.kf tfA.ks (by have := tfA.hgd; omega)
        have HS := Lib.hid hseq
        have HSZ := Lib.hid hszA
        clear hseq hszA
        refine name_frame fun T0 hT0 => ?_
        rename_i K0 hK0
        have hrest : ∀ (D : Nat) (X : World), WA.heap.size ≤ D → X.heap[D]? = some (.deferred (some [])) → Row X q20 3 #[.int .i64 (Z : Int)] → Same (fun k => k < WA.heap.size ∧ k ≠ q20) WA X → K0 { tmps := T0, defers := { target := .collected D, args := #[] } :: [] } X := by
          intro D1 X1 hD1 hKD1 kn hs
          refine hK0 _ _ ?_
          rw [hT0]
          clear hT0 HS hK0
          have hbX : Below (q18 + 1) WA X1 := Same.below (hs.mono fun k (hk : k < q18 + 1) => ⟨by have := tfA.size; omega, by omega⟩)
          have tfX := tfA.below hbX
          have k19X := k19A.same hs ⟨by omega, by omega⟩
          have c19 : X1.cell? ⟨q19, 0, none⟩ = some (.int .i64 0) := (k19X.cell 0).trans rfl
          have c20 : X1.cell? ⟨q20, 0, none⟩ = some (.int .i64 (Z : Int)) := (kn.cell 0).trans rfl
          have c18 : X1.cell? ⟨q18, 0, none⟩ = some (.slice A18 K c18) := (tfX.k18.cell 0).trans rfl
          have c5 : X1.cell? ⟨q + 1, 0, none⟩ = some (.int .i64 many) := (tfX.k5.cell 0).trans rfl
          have hm1 := HM1.out
          have hz := HZ.out
          go_upto_region 33 with fail
          clear hm1 hz
          go_wp2_with fail
          clear c19 c20 c18 c5
          have k19 := Row.new X1 3 #[.int .i64 1]
          have hbB : Below (q18 + 1) X1 (X1.alloc (.cells #[.int .i64 1] 3)) := (Below.refl _ _).alloc tfX.size _
          have tf := tfX.below hbB
          have hKD1 : (X1.alloc (.cells #[.int .i64 1] 3)).heap[D1]? = some (.deferred (some [])) := (Below.heap_alloc _ _ _ (Array.getElem?_eq_some_iff.1 hKD1).1).trans hKD1
          have hq19X : q18 + 1 ≤ X1.heap.size := tfX.size
          have hqD1 : r < D1 := by have := tfA.hr; have := tfA.size; omega
          clear hs kn k19X tfX hbB hbX k20 k19A tfA hq19M hq19l hD1
          obtain ⟨q19, hq19⟩ : ∃ x, x = X1.heap.size := ⟨_, rfl⟩
          rw [← hq19] at k19 hq19X ⊢
          have hq19M := hq19X
          clear hq19 hq19X
          generalize X1.alloc (.cells #[.int .i64 1] 3) = w22 at *
          rw [rounds_succ]
          have c19 : w22.cell? ⟨q19, 0, none⟩ = some (.int .i64 1) := (k19.cell 0).trans rfl
          have hnil := fun X => eqlSeqNil (W := X) (.func 52) #[] #[.pointer (some ⟨gs, 0, none⟩)]
          have hq19l := k19.lt
          go_wp2_with fail
          have k20 := Row.new w22 3 #[.int .i64 0]
          have hbA : Below (q18 + 1) w22 (w22.alloc (.cells #[.int .i64 0] 3)) := (Below.refl _ _).alloc tf.size _
          have tfA := tf.below hbA
          have k19A := k19.alloc (.cells #[.int .i64 0] 3)
          have hszA : (w22.alloc (.cells #[.int .i64 0] 3)).heap.size = w22.heap.size + 1 := by simp
          obtain ⟨q20, hq20⟩ : ∃ x, x = w22.heap.size := ⟨_, rfl⟩
          rw [← hq20] at k20 hszA hq19l ⊢
          have hD1s : D1 < q20 := by rw [hq20]; exact (Array.getElem?_eq_some_iff.1 hKD1).1
          have hKD1A : (w22.alloc (.cells #[.int .i64 0] 3)).heap[D1]? = some (.deferred (some [])) := (Below.heap_alloc _ _ _ (Array.getElem?_eq_some_iff.1 hKD1).1).trans hKD1
          generalize w22.alloc (.cells #[.int .i64 0] 3) = WA at *
          have hlt20 := k20.lt
          clear tf k19 hbA hq20 c19 hnil
          have hseq := mall1_seq l gs gf gd A16 jj c16 WA 11 (by omega) (fun b => b = q20 ∨ b = WA.heap.size + 1) (by rintro b (h | h) <;> omega) (by have := tfA.hs; rintro (h | h) <;> omega) (by have := tfA.hf; rintro (h | h) <;> omega) (by have := tfA.hgd; rintro (h | h) <;> omega) HN.out hc16 (by unfold maxLen at hcm16; omega) (by omega) tfA.rd7 tfA.hg tfA.kf tfA.ks (by have := tfA.hgd; omega)
          have HS := Lib.hid hseq
          have HSZ := Lib.hid hszA
          clear hseq hszA
          refine name_frame fun T0 hT0 => ?_
          rename_i K0 hK0
          have hrest : ∀ (D : Nat) (X : World), WA.heap.size ≤ D → X.heap[D]? = some (.deferred (some [])) → Row X q20 3 #[.int .i64 (K : Int)] → Same (fun k => k < WA.heap.size ∧ k ≠ q20) WA X → K0 { tmps := T0, defers := { target := .collected D, args := #[] } :: [{ target := .collected D1, args := #[] }] } X := by
            intro D0 X0 hD0 hKD0 kn hs
            refine hK0 _ _ ?_
            rw [hT0]
            clear hT0 HS hK0
            have hbX : Below (q18 + 1) WA X0 := Same.below (hs.mono fun k (hk : k < q18 + 1) => ⟨by have := tfA.size; omega, by omega⟩)
            have tfX := tfA.below hbX
            have k19X := k19A.same hs ⟨by omega, by omega⟩
            have c19 : X0.cell? ⟨q19, 0, none⟩ = some (.int .i64 1) := (k19X.cell 0).trans rfl
            have c20 : X0.cell? ⟨q20, 0, none⟩ = some (.int .i64 (K : Int)) := (kn.cell 0).trans rfl
            have c18 : X0.cell? ⟨q18, 0, none⟩ = some (.slice A18 K c18) := (tfX.k18.cell 0).trans rfl
            have c5 : X0.cell? ⟨q + 1, 0, none⟩ = some (.int .i64 many) := (tfX.k5.cell 0).trans rfl
            go_upto_region 33 with fail
            go_wp2_with fail
            clear c19 c20 c18 c5
            have hKD1X : X0.heap[D1]? = some (.deferred (some [])) := (hs.block D1 ⟨by omega, by omega⟩).trans hKD1A
            have k19' := Row.new X0 3 #[.int .i64 2]
            have hbB : Below (q18 + 1) X0 (X0.alloc (.cells #[.int .i64 2] 3)) := (Below.refl _ _).alloc tfX.size _
            have tfB := tfX.below hbB
            have hLX0 : Later X0 (X0.alloc (.cells #[.int .i64 2] 3)) := (Later.refl X0).alloc _
            have hLwX := tfX.lat
            clear hs kn k19X tfX hbB k20 k19A tfA hKD1A
            have c19 : (X0.alloc (.cells #[.int .i64 2] 3)).cell? ⟨X0.heap.size, 0, none⟩ = some (.int .i64 2) := (k19'.cell 0).trans rfl
            rw [rounds_succ]
            generalize X0.alloc (.cells #[.int .i64 2] 3) = w24 at *
            have k624 := tfB.k6
            have hqM := tfB.hr
            have hwM := tfB.h1
            clear tfB
            go_wp2_with (first
              | (go_at_call 9; refine (works_yes _).mono ?_; rintro e w25 ⟨rfl, hL25⟩; have k625 := k624.later hL25; have c625 : w25.cell? ⟨r, 0, none⟩ = some (.bool false) := (k625.cell 0).trans rfl; have f625 : w25.frozen? ⟨r, 0, none⟩ = false := k625.frozen 0)
              | fail)
            have hwX : Below w.heap.size w X0 := (hL1.step hLwX)
            have hfin := leaveX2 (q := r) hKD0 hKD1X hwX k625 (hLX0.step hL25) (by omega) (by omega) (by have := HQ.out; have := HRR.out; omega)
            exact leaveM2 (by omega) hfin.1 hfin.2.1 (by simp [results, Tryz.results7, go_sem, hfin.2.2.1]) (HΦ.out _ _ ⟨rfl, hfin.2.2.2⟩)
          refine (wpIn_wide (n := 12)).1 ?_
          refine wpIn_range_W (α := Td) (Kp := KeepT (fun b => b = q20 ∨ b = WA.heap.size + 1)) rfl (by omega) (gf := 52) (lb := #[.pointer (some ⟨gs, 0, none⟩)]) (by rw [hT0]; rfl) trivial (enters_of Tryz.func52 (by kernel_rfl) rfl)
            HS.out (fun r h => h.elim) (fun h k => h.trans k) (fun x W o => KeepW.put W o (.inr rfl)) (Below.refl _ _) (fun _ => rfl)
            (fun pre X => pre.length ≤ K ∧ True ∧ Row X q20 3 #[.int .i64 (pre.length : Int)] ∧ Same (fun k => k < WA.heap.size ∧ k ≠ q20) WA X)
            (fun c pre X => False)
            (fun pre X Y ⟨h1, h2, h3, h4⟩ hs => ⟨h1, h2, h3.same hs ⟨by omega, fun h => h⟩, h4.trans (hs.mono fun k hk => ⟨hk.1, fun h => h⟩)⟩)
            (fun c pre X Y h _ => h)
            ⟨by simp, trivial, k20, Same.refl _ _⟩
            (fun pre x a' X => ∃ gt, a' = { tmps := ((((T0.setIfInBounds 125 (.int .i64 x.at_)).setIfInBounds 126 (.agg (toldC x.t))).setIfInBounds 21 (.int .i64 x.at_)).setIfInBounds 22 (.pointer (some ⟨gt, 0, none⟩))), defers := [] } ∧ TdOk l pre x X ∧ Row X gt 48 (toldC x.t) ∧ WA.heap.size + 2 ≤ gt)
            (fun pre x a' X o ⟨gt, h1, h2, h3, h4⟩ => ⟨gt, h1, h2, (World.putObj_heap_other (by omega)).trans h3, h4⟩) ?assign ?body ?done ?stop
          case assign =>
            intro l0 pre x X K hXs hi hok hK
            have hTw : x.t.wf := by rw [hok.2]; exact toldOf_wf _
            obtain ⟨w9, hst, k9, hL9⟩ := newTold X hTw
            have HK := Lib.hid hK
            have HI := Lib.hid hi
            have HOK := Lib.hid hok
            clear hK hi hok
            have e89 : ((#[125, 126] : Array Tmp).zip (tdE x)).foldl (fun t (p, v) => t.setIfInBounds p v) T0 = (T0.setIfInBounds 125 (.int .i64 x.at_)).setIfInBounds 126 (.agg (toldC x.t)) := by simp
            rw [e89, hT0]
            clear e89
            simp only [List.setIfInBounds_toArray, List.set_cons_succ, List.set_cons_zero]
            gi_wp2_with (first
              | (refine wpListIn_allocR rfl 48 rfl (allocTold _) ?_)
              | (refine wpListIn_storeR rfl 48 (.tmp 22) (.tmp 126) rfl (.pointer (some ⟨X.heap.size, 0, none⟩)) (.agg (toldC x.t)) rfl rfl hst ?_)
              | fail)
            obtain ⟨i1, i2, i3, i4⟩ := HI.out
            exact HK.out _ _ (KeepsFrom.of_later hL9) (KeepW.later hL9) ⟨i1, i2, i3.later hL9, i4.trans ((Same.of_below hL9).mono fun k hk => by have := hk.1; have := i4.size; omega)⟩ ⟨X.heap.size, by rw [hT0]; rfl, HOK.out, k9, hXs⟩
          case body =>
            rintro l0 pre x a' X hl hlo hXs ⟨h1, hcond, h3, h4⟩ ⟨gt, rfl, hok, hrt, hgt⟩
            obtain ⟨g1, g2⟩ := hok
            have hplen : (pre ++ [x]).length = pre.length + 1 := by simp
            obtain ⟨k, hk⟩ : ∃ k, pre.length = k := ⟨_, rfl⟩
            rw [hk] at h1 h3 g1 g2 hplen
            have hki : k < K := by
              by_cases e : k = K
              · have := g1 k (Nat.le_refl _)
                rw [e, HGK.out] at this
                cases this
              · omega
            have hkd : k < (tds K l).length := by rw [tds_len]; exact hki
            have hbX : Below (q18 + 1) WA X := Same.below (h4.mono fun k (hk : k < q18 + 1) => ⟨by have := tfA.size; omega, by omega⟩)
            have tfX := tfA.below hbX
            obtain ⟨bi, cs, rfl, _, hrb, hc0, hc1⟩ := tfX.own18.get k hkd
            rw [tds_get] at hc0 hc1
            have hTw : x.t.wf := by rw [g2]; exact toldOf_wf _
            rw [← g2] at hc0 hc1
            obtain ⟨xat, xt⟩ := x
            simp only at hc0 hc1 hrt hTw
            have hcA : X.cell? ⟨bi, k * 335, none⟩ = some (.int .i64 xat) := (hrb.cell _).trans hc0
            have hldB := loadToldAt (o := k * 335 + 1) hTw hrb hc1
            have hldB2 := fun W (hL : Later X W) => loadToldAt (o := k * 335 + 1) hTw (hrb.later hL) hc1
            have k19X := k19A.same h4 ⟨by omega, by omega⟩
            rw [hT0]
            simp only [List.setIfInBounds_toArray, List.set_cons_succ, List.set_cons_zero]
            have HREST := Lib.hid hrest
            have HPL := Lib.hid hplen
            clear hplen g1 g2 hT0 hrest hK0 HS hbX hldB hc0 hc1
            have hk9 : (k : Int) + 1 ≤ 9223372036854775807 := by
              have := HN.out
              have u1 := Wr.upto_ge l k (fun i hi => (rd_go (HGO.out i (by omega))).2.2.2.2)
              have u2 := Wr.upto_le l k (fun i hi => (rd_go (HGO.out i (by omega))).2.2.2.2)
              omega
            gi_wp2_with fail
            have WR0 := wide_round l0
            refine wpIn_region_vals WR0 [Pr.eq (.int .i64 (k : Int)), Pr.eq (.slice (some ⟨bi, 0, none⟩) K c18), Pr.eq (.int .i64 (K : Int)), Pr.eq (.bool false), Pr.eq (.bool false), Pr.eq (.int .i64 xat), Pr.eq (.slice (some ⟨bi, 0, none⟩) K c18), Pr.eq (.int .i64 (k : Int)), Pr.eq (.pointer (some ⟨bi, k * 335, none⟩)), Pr.eq (.pointer (some ⟨bi, k * 335, none⟩)), Pr.eq (.int .i64 xat), Pr.eq (.bool false), Pr.eq (.bool false), Pr.eq (.bool false), Pr.eq (.agg (toldC xt)), Pr.eq (.slice (some ⟨bi, 0, none⟩) K c18), Pr.eq (.int .i64 (k : Int)), Pr.eq (.pointer (some ⟨bi, k * 335, none⟩)), Pr.eq (.pointer (some ⟨bi, k * 335 + 1, none⟩)), Pr.eq (.agg (toldC xt)), Pr.eq (.bool false), Pr.eq (.bool false)] (by kernel_rfl) (by kernel_rfl) (by kernel_rfl) (by kernel_rfl) (by kernel_rfl) ⟨?_, ?_, ?_, ?_, ?_, ?_, ?_, ?_, ?_, ?_, ?_, ?_, ?_, ?_, ?_, ?_, ?_, ?_, ?_, ?_, ?_, ?_, trivial⟩ ?_
            · exact fun ac W hL he => stepOk_want rfl (op_load rfl (he.keep (.tmp 20) (by kernel_rfl)) (loadInt ((h3.later hL).cell 0 |>.trans rfl)) rfl)
            · exact fun ac W hL he => stepOk_want rfl (op_load rfl (he.keep (.tmp 18) (by kernel_rfl)) (loadParts ((tfX.k18.later hL).cell 0 |>.trans rfl)) rfl)
            · exact fun ac W hL he => stepOk_want rfl (op_len Tryz.underlying59 rfl (he.get 1 128 (by kernel_rfl) rfl) rfl)
            · exact fun ac W hL he => stepOk_want rfl (op_binOp rfl (he.get 0 127 (by kernel_rfl) rfl) (he.get 2 129 (by kernel_rfl) rfl) rfl (geqI (by omega)) rfl)
            · exact fun ac W hL he => stepOk_want rfl (op_move rfl (he.get 3 130 (by kernel_rfl) rfl))
            · exact fun ac W hL he => stepOk_yes (j := 4) (t := 131) (b := false) rfl rfl (he.get 4 131 (by kernel_rfl) rfl) (op_move rfl (he.keep (.tmp 21) (by kernel_rfl)))
            · exact fun ac W hL he => stepOk_yes (j := 4) (t := 131) (b := false) rfl rfl (he.get 4 131 (by kernel_rfl) rfl) (op_load rfl (he.keep (.tmp 18) (by kernel_rfl)) (loadParts ((tfX.k18.later hL).cell 0 |>.trans rfl)) rfl)
            · exact fun ac W hL he => stepOk_yes (j := 4) (t := 131) (b := false) rfl rfl (he.get 4 131 (by kernel_rfl) rfl) (op_load rfl (he.keep (.tmp 20) (by kernel_rfl)) (loadInt ((h3.later hL).cell 0 |>.trans rfl)) rfl)
            · exact fun ac W hL he => stepOk_yes (j := 4) (t := 131) (b := false) rfl rfl (he.get 4 131 (by kernel_rfl) rfl) (op_idx rfl (he.get 6 133 (by kernel_rfl) rfl) (he.get 7 134 (by kernel_rfl) rfl) (idxTd W hki) rfl)
            · exact fun ac W hL he => stepOk_yes (j := 4) (t := 131) (b := false) rfl rfl (he.get 4 131 (by kernel_rfl) rfl) (op_fieldAddr rfl (he.get 8 135 (by kernel_rfl) rfl) (fieldTd0 W) rfl)
            · exact fun ac W hL he => stepOk_yes (j := 4) (t := 131) (b := false) rfl rfl (he.get 4 131 (by kernel_rfl) rfl) (op_load rfl (he.get 9 136 (by kernel_rfl) rfl) (loadInt (hL.cell hcA)) rfl)
            · exact fun ac W hL he => stepOk_yes (j := 4) (t := 131) (b := false) rfl rfl (he.get 4 131 (by kernel_rfl) rfl) (op_binOp rfl (he.get 5 132 (by kernel_rfl) rfl) (he.get 10 137 (by kernel_rfl) rfl) eqgI (neqI_me _ _ _) rfl)
            · exact fun ac W hL he => stepOk_want rfl (op_pick (b := false) rfl (he.get 4 131 (by kernel_rfl) rfl) (he.get 11 138 (by kernel_rfl) rfl))
            · exact fun ac W hL he => stepOk_want rfl (op_move rfl (he.get 12 139 (by kernel_rfl) rfl))
            · exact fun ac W hL he => stepOk_yes (j := 13) (t := 140) (b := false) rfl rfl (he.get 13 140 (by kernel_rfl) rfl) (op_load rfl (he.keep (.tmp 22) (by kernel_rfl)) (loadTold hTw (hrt.later hL)) rfl)
            · exact fun ac W hL he => stepOk_yes (j := 13) (t := 140) (b := false) rfl rfl (he.get 13 140 (by kernel_rfl) rfl) (op_load rfl (he.keep (.tmp 18) (by kernel_rfl)) (loadParts ((tfX.k18.later hL).cell 0 |>.trans rfl)) rfl)
            · exact fun ac W hL he => stepOk_yes (j := 13) (t := 140) (b := false) rfl rfl (he.get 13 140 (by kernel_rfl) rfl) (op_load rfl (he.keep (.tmp 20) (by kernel_rfl)) (loadInt ((h3.later hL).cell 0 |>.trans rfl)) rfl)
            · exact fun ac W hL he => stepOk_yes (j := 13) (t := 140) (b := false) rfl rfl (he.get 13 140 (by kernel_rfl) rfl) (op_idx rfl (he.get 15 142 (by kernel_rfl) rfl) (he.get 16 143 (by kernel_rfl) rfl) (idxTd W hki) rfl)
            · exact fun ac W hL he => stepOk_yes (j := 13) (t := 140) (b := false) rfl rfl (he.get 13 140 (by kernel_rfl) rfl) (op_fieldAddr rfl (he.get 17 144 (by kernel_rfl) rfl) (fieldTd1 W) rfl)
            · exact fun ac W hL he => stepOk_yes (j := 13) (t := 140) (b := false) rfl rfl (he.get 13 140 (by kernel_rfl) rfl) (op_load rfl (he.get 18 145 (by kernel_rfl) rfl) (hldB2 W hL) rfl)
            · exact fun ac W hL he => stepOk_yes (j := 13) (t := 140) (b := false) rfl rfl (he.get 13 140 (by kernel_rfl) rfl) (op_binOp rfl (he.get 14 141 (by kernel_rfl) rfl) (he.get 19 146 (by kernel_rfl) rfl) (eqgTold _ _ _ _ _ W) (neqToldMe hTw W) rfl)
            · exact fun ac W hL he => stepOk_want rfl (op_pick (b := false) rfl (he.get 13 140 (by kernel_rfl) rfl) (he.get 20 147 (by kernel_rfl) rfl))
            intro zz Wz hL hzz
            have e148 : zz 21 = .bool false := hzz 21 (by decide)
            have tfz := tfX.below (hL.mono tfX.size)
            have k20z := h3.later hL
            have k19z := k19X.later hL
            have hszX := h4.size
            have hszz := hL.size
            clear hzz tfX h3 k19X hcA hldB2 hrb hrt
            simp only [putL, Nat.reduceAdd, Act.put, List.setIfInBounds_toArray, List.set_cons_succ, List.set_cons_zero]
            rw [e148]
            clear e148
            have hqM := tfz.hq
            have c20 : Wz.cell? ⟨q20, 0, none⟩ = some (.int .i64 (k : Int)) := (k20z.cell 0).trans rfl
            have f20 : Wz.frozen? ⟨q20, 0, none⟩ = false := k20z.frozen 0
            have hset := k20z.set 0 (.int .i64 ((k : Int) + 1))
            have k19s := k19z.far (p := ⟨q20, 0, none⟩) (by show q19 ≠ q20; omega) (.int .i64 ((k : Int) + 1))
            have k5s := tfz.k5.far (p := ⟨q20, 0, none⟩) (by show q + 1 ≠ q20; omega) (.int .i64 ((k : Int) + 1))
            have c20s : (Wz.setCell ⟨q20, 0, none⟩ (.int .i64 ((k : Int) + 1))).cell? ⟨q20, 0, none⟩ = some (.int .i64 ((k : Int) + 1)) := (hset.cell 0).trans rfl
            have c19s : (Wz.setCell ⟨q20, 0, none⟩ (.int .i64 ((k : Int) + 1))).cell? ⟨q19, 0, none⟩ = some (.int .i64 1) := (k19s.cell 0).trans rfl
            have c5s : (Wz.setCell ⟨q20, 0, none⟩ (.int .i64 ((k : Int) + 1))).cell? ⟨q + 1, 0, none⟩ = some (.int .i64 many) := (k5s.cell 0).trans rfl
            have hwr1 : IntKind.i64.wrap ((k : Int) + 1) = (k : Int) + 1 := IntWalk.i64_in _ (by omega)
            have hkwX : KeepW (fun b => b = q20) noFr X (Wz.setCell ⟨q20, 0, none⟩ (.int .i64 ((k : Int) + 1))) := (KeepW.later hL).trans (KeepW.set Wz ⟨q20, 0, none⟩ _ rfl)
            have hkf : KeepsFrom WA.heap.size X (Wz.setCell ⟨q20, 0, none⟩ (.int .i64 ((k : Int) + 1))) := hkwX.from (fun b h => by omega) (fun b o e => by cases e)
            have hkw2 : KeepW (fun b => b = q20 ∨ b = WA.heap.size + 1) noFr X (Wz.setCell ⟨q20, 0, none⟩ (.int .i64 ((k : Int) + 1))) := hkwX.mono (fun b h => .inl h) rfl
            have hsame : Same (fun k => k < WA.heap.size ∧ k ≠ q20) WA (Wz.setCell ⟨q20, 0, none⟩ (.int .i64 ((k : Int) + 1))) := (h4.trans ((Same.of_below hL).mono fun k hk => by have := hk.1; omega)).trans ((Same.set Wz ⟨q20, 0, none⟩ _).mono fun k hk => hk.2)
            clear k19s k5s hkwX h4 hL tfz k20z k19z
            gi_wp2_with fail
            exact ⟨hkf, hkw2, by rw [HPL.out]; exact hki, trivial, by rw [HPL.out]; exact hset, hsame⟩
          case done =>
            rintro D0 ys X hD hS ⟨h1, h2, h3, h4⟩ hK
            have hyK : ys.length = K := by
              by_cases e : ys.length = K
              · exact e
              · have hg := HGO.out ys.length (by omega)
                rw [hS.1] at hg
                cases hg
            rw [hyK] at h3
            exact hrest D0 X hD hK h3 h4
          case stop =>
            exact fun _ _ _ _ _ _ h _ => h.elim
        refine (wpIn_wide (n := 12)).1 ?_
        refine wpIn_range_W (α := Td) (Kp := KeepT (fun b => b = q20 ∨ b = WA.heap.size + 1)) rfl (by omega) (gf := 52) (lb := #[.pointer (some ⟨gs, 0, none⟩)]) (by rw [hT0]; rfl) trivial (enters_of Tryz.func52 (by kernel_rfl) rfl)
          HS.out (fun r h => h.elim) (fun h k => h.trans k) (fun x W o => KeepW.put W o (.inr rfl)) (Below.refl _ _) (fun _ => rfl)
          (fun pre X => pre.length ≤ K ∧ (pre.length = 0 ∨ (pre.length : Int) < many) ∧ Row X q20 3 #[.int .i64 (pre.length : Int)] ∧ Same (fun k => k < WA.heap.size ∧ k ≠ q20) WA X)
          (fun c pre X => c = Code.exit 4 ∧ pre.length = Z ∧ Row X q20 3 #[.int .i64 (pre.length : Int)] ∧ Same (fun k => k < WA.heap.size ∧ k ≠ q20) WA X)
          (fun pre X Y ⟨h1, h2, h3, h4⟩ hs => ⟨h1, h2, h3.same hs ⟨by omega, fun h => h⟩, h4.trans (hs.mono fun k hk => ⟨hk.1, fun h => h⟩)⟩)
          (fun c pre X Y ⟨h1, h2, h3, h4⟩ hs => ⟨h1, h2, h3.same hs ⟨by omega, fun h => h⟩, h4.trans (hs.mono fun k hk => ⟨hk.1, fun h => h⟩)⟩)
          ⟨by simp, .inl rfl, k20, Same.refl _ _⟩
          (fun pre x a' X => ∃ gt, a' = { tmps := ((((T0.setIfInBounds 125 (.int .i64 x.at_)).setIfInBounds 126 (.agg (toldC x.t))).setIfInBounds 21 (.int .i64 x.at_)).setIfInBounds 22 (.pointer (some ⟨gt, 0, none⟩))), defers := [] } ∧ TdOk l pre x X ∧ Row X gt 48 (toldC x.t) ∧ WA.heap.size + 2 ≤ gt)
          (fun pre x a' X o ⟨gt, h1, h2, h3, h4⟩ => ⟨gt, h1, h2, (World.putObj_heap_other (by omega)).trans h3, h4⟩) ?assign ?body ?done ?stop
        case assign =>
          intro l0 pre x X K hXs hi hok hK
          have hTw : x.t.wf := by rw [hok.2]; exact toldOf_wf _
          obtain ⟨w9, hst, k9, hL9⟩ := newTold X hTw
          have HK := Lib.hid hK
          have HI := Lib.hid hi
          have HOK := Lib.hid hok
          clear hK hi hok
          have e89 : ((#[125, 126] : Array Tmp).zip (tdE x)).foldl (fun t (p, v) => t.setIfInBounds p v) T0 = (T0.setIfInBounds 125 (.int .i64 x.at_)).setIfInBounds 126 (.agg (toldC x.t)) := by simp
          rw [e89, hT0]
          clear e89
          simp only [List.setIfInBounds_toArray, List.set_cons_succ, List.set_cons_zero]
          gi_wp2_with (first
            | (refine wpListIn_allocR rfl 48 rfl (allocTold _) ?_)
            | (refine wpListIn_storeR rfl 48 (.tmp 22) (.tmp 126) rfl (.pointer (some ⟨X.heap.size, 0, none⟩)) (.agg (toldC x.t)) rfl rfl hst ?_)
            | fail)
          obtain ⟨i1, i2, i3, i4⟩ := HI.out
          exact HK.out _ _ (KeepsFrom.of_later hL9) (KeepW.later hL9) ⟨i1, i2, i3.later hL9, i4.trans ((Same.of_below hL9).mono fun k hk => by have := hk.1; have := i4.size; omega)⟩ ⟨X.heap.size, by rw [hT0]; rfl, HOK.out, k9, hXs⟩
        case body =>
          rintro l0 pre x a' X hl hlo hXs ⟨h1, hcond, h3, h4⟩ ⟨gt, rfl, hok, hrt, hgt⟩
          obtain ⟨g1, g2⟩ := hok
          have hplen : (pre ++ [x]).length = pre.length + 1 := by simp
          obtain ⟨k, hk⟩ : ∃ k, pre.length = k := ⟨_, rfl⟩
          rw [hk] at h1 hcond h3 g1 g2 hplen
          have hki : k < K := by
            by_cases e : k = K
            · have := g1 k (Nat.le_refl _)
              rw [e, HGK.out] at this
              cases this
            · omega
          have hkd : k < (tds K l).length := by rw [tds_len]; exact hki
          have hbX : Below (q18 + 1) WA X := Same.below (h4.mono fun k (hk : k < q18 + 1) => ⟨by have := tfA.size; omega, by omega⟩)
          have tfX := tfA.below hbX
          obtain ⟨bi, cs, rfl, _, hrb, hc0, hc1⟩ := tfX.own18.get k hkd
          rw [tds_get] at hc0 hc1
          have hTw : x.t.wf := by rw [g2]; exact toldOf_wf _
          rw [← g2] at hc0 hc1
          obtain ⟨xat, xt⟩ := x
          simp only at hc0 hc1 hrt hTw
          have hcA : X.cell? ⟨bi, k * 335, none⟩ = some (.int .i64 xat) := (hrb.cell _).trans hc0
          have hldB := loadToldAt (o := k * 335 + 1) hTw hrb hc1
          have hldB2 := fun W (hL : Later X W) => loadToldAt (o := k * 335 + 1) hTw (hrb.later hL) hc1
          have k19X := k19A.same h4 ⟨by omega, by omega⟩
          rw [hT0]
          simp only [List.setIfInBounds_toArray, List.set_cons_succ, List.set_cons_zero]
          have HREST := Lib.hid hrest
          have HPL := Lib.hid hplen
          clear hplen g1 g2 hT0 hrest hK0 HS hbX hldB hc0 hc1
          have hk9 : (k : Int) + 1 ≤ 9223372036854775807 := by
            have := HN.out
            have u1 := Wr.upto_ge l k (fun i hi => (rd_go (HGO.out i (by omega))).2.2.2.2)
            have u2 := Wr.upto_le l k (fun i hi => (rd_go (HGO.out i (by omega))).2.2.2.2)
            omega
          gi_wp2_with fail
          have WR0 := wide_round l0
          refine wpIn_region_vals WR0 [Pr.eq (.int .i64 (k : Int)), Pr.eq (.slice (some ⟨bi, 0, none⟩) K c18), Pr.eq (.int .i64 (K : Int)), Pr.eq (.bool false), Pr.eq (.bool false), Pr.eq (.int .i64 xat), Pr.eq (.slice (some ⟨bi, 0, none⟩) K c18), Pr.eq (.int .i64 (k : Int)), Pr.eq (.pointer (some ⟨bi, k * 335, none⟩)), Pr.eq (.pointer (some ⟨bi, k * 335, none⟩)), Pr.eq (.int .i64 xat), Pr.eq (.bool false), Pr.eq (.bool false), Pr.eq (.bool false), Pr.eq (.agg (toldC xt)), Pr.eq (.slice (some ⟨bi, 0, none⟩) K c18), Pr.eq (.int .i64 (k : Int)), Pr.eq (.pointer (some ⟨bi, k * 335, none⟩)), Pr.eq (.pointer (some ⟨bi, k * 335 + 1, none⟩)), Pr.eq (.agg (toldC xt)), Pr.eq (.bool false), Pr.eq (.bool false)] (by kernel_rfl) (by kernel_rfl) (by kernel_rfl) (by kernel_rfl) (by kernel_rfl) ⟨?_, ?_, ?_, ?_, ?_, ?_, ?_, ?_, ?_, ?_, ?_, ?_, ?_, ?_, ?_, ?_, ?_, ?_, ?_, ?_, ?_, ?_, trivial⟩ ?_
          · exact fun ac W hL he => stepOk_want rfl (op_load rfl (he.keep (.tmp 20) (by kernel_rfl)) (loadInt ((h3.later hL).cell 0 |>.trans rfl)) rfl)
          · exact fun ac W hL he => stepOk_want rfl (op_load rfl (he.keep (.tmp 18) (by kernel_rfl)) (loadParts ((tfX.k18.later hL).cell 0 |>.trans rfl)) rfl)
          · exact fun ac W hL he => stepOk_want rfl (op_len Tryz.underlying59 rfl (he.get 1 128 (by kernel_rfl) rfl) rfl)
          · exact fun ac W hL he => stepOk_want rfl (op_binOp rfl (he.get 0 127 (by kernel_rfl) rfl) (he.get 2 129 (by kernel_rfl) rfl) rfl (geqI (by omega)) rfl)
          · exact fun ac W hL he => stepOk_want rfl (op_move rfl (he.get 3 130 (by kernel_rfl) rfl))
          · exact fun ac W hL he => stepOk_yes (j := 4) (t := 131) (b := false) rfl rfl (he.get 4 131 (by kernel_rfl) rfl) (op_move rfl (he.keep (.tmp 21) (by kernel_rfl)))
          · exact fun ac W hL he => stepOk_yes (j := 4) (t := 131) (b := false) rfl rfl (he.get 4 131 (by kernel_rfl) rfl) (op_load rfl (he.keep (.tmp 18) (by kernel_rfl)) (loadParts ((tfX.k18.later hL).cell 0 |>.trans rfl)) rfl)
          · exact fun ac W hL he => stepOk_yes (j := 4) (t := 131) (b := false) rfl rfl (he.get 4 131 (by kernel_rfl) rfl) (op_load rfl (he.keep (.tmp 20) (by kernel_rfl)) (loadInt ((h3.later hL).cell 0 |>.trans rfl)) rfl)
          · exact fun ac W hL he => stepOk_yes (j := 4) (t := 131) (b := false) rfl rfl (he.get 4 131 (by kernel_rfl) rfl) (op_idx rfl (he.get 6 133 (by kernel_rfl) rfl) (he.get 7 134 (by kernel_rfl) rfl) (idxTd W hki) rfl)
          · exact fun ac W hL he => stepOk_yes (j := 4) (t := 131) (b := false) rfl rfl (he.get 4 131 (by kernel_rfl) rfl) (op_fieldAddr rfl (he.get 8 135 (by kernel_rfl) rfl) (fieldTd0 W) rfl)
          · exact fun ac W hL he => stepOk_yes (j := 4) (t := 131) (b := false) rfl rfl (he.get 4 131 (by kernel_rfl) rfl) (op_load rfl (he.get 9 136 (by kernel_rfl) rfl) (loadInt (hL.cell hcA)) rfl)
          · exact fun ac W hL he => stepOk_yes (j := 4) (t := 131) (b := false) rfl rfl (he.get 4 131 (by kernel_rfl) rfl) (op_binOp rfl (he.get 5 132 (by kernel_rfl) rfl) (he.get 10 137 (by kernel_rfl) rfl) eqgI (neqI_me _ _ _) rfl)
          · exact fun ac W hL he => stepOk_want rfl (op_pick (b := false) rfl (he.get 4 131 (by kernel_rfl) rfl) (he.get 11 138 (by kernel_rfl) rfl))
          · exact fun ac W hL he => stepOk_want rfl (op_move rfl (he.get 12 139 (by kernel_rfl) rfl))
          · exact fun ac W hL he => stepOk_yes (j := 13) (t := 140) (b := false) rfl rfl (he.get 13 140 (by kernel_rfl) rfl) (op_load rfl (he.keep (.tmp 22) (by kernel_rfl)) (loadTold hTw (hrt.later hL)) rfl)
          · exact fun ac W hL he => stepOk_yes (j := 13) (t := 140) (b := false) rfl rfl (he.get 13 140 (by kernel_rfl) rfl) (op_load rfl (he.keep (.tmp 18) (by kernel_rfl)) (loadParts ((tfX.k18.later hL).cell 0 |>.trans rfl)) rfl)
          · exact fun ac W hL he => stepOk_yes (j := 13) (t := 140) (b := false) rfl rfl (he.get 13 140 (by kernel_rfl) rfl) (op_load rfl (he.keep (.tmp 20) (by kernel_rfl)) (loadInt ((h3.later hL).cell 0 |>.trans rfl)) rfl)
          · exact fun ac W hL he => stepOk_yes (j := 13) (t := 140) (b := false) rfl rfl (he.get 13 140 (by kernel_rfl) rfl) (op_idx rfl (he.get 15 142 (by kernel_rfl) rfl) (he.get 16 143 (by kernel_rfl) rfl) (idxTd W hki) rfl)
          · exact fun ac W hL he => stepOk_yes (j := 13) (t := 140) (b := false) rfl rfl (he.get 13 140 (by kernel_rfl) rfl) (op_fieldAddr rfl (he.get 17 144 (by kernel_rfl) rfl) (fieldTd1 W) rfl)
          · exact fun ac W hL he => stepOk_yes (j := 13) (t := 140) (b := false) rfl rfl (he.get 13 140 (by kernel_rfl) rfl) (op_load rfl (he.get 18 145 (by kernel_rfl) rfl) (hldB2 W hL) rfl)
          · exact fun ac W hL he => stepOk_yes (j := 13) (t := 140) (b := false) rfl rfl (he.get 13 140 (by kernel_rfl) rfl) (op_binOp rfl (he.get 14 141 (by kernel_rfl) rfl) (he.get 19 146 (by kernel_rfl) rfl) (eqgTold _ _ _ _ _ W) (neqToldMe hTw W) rfl)
          · exact fun ac W hL he => stepOk_want rfl (op_pick (b := false) rfl (he.get 13 140 (by kernel_rfl) rfl) (he.get 20 147 (by kernel_rfl) rfl))
          intro zz Wz hL hzz
          have e148 : zz 21 = .bool false := hzz 21 (by decide)
          have tfz := tfX.below (hL.mono tfX.size)
          have k20z := h3.later hL
          have k19z := k19X.later hL
          have hszX := h4.size
          have hszz := hL.size
          clear hzz tfX h3 k19X hcA hldB2 hrb hrt
          simp only [putL, Nat.reduceAdd, Act.put, List.setIfInBounds_toArray, List.set_cons_succ, List.set_cons_zero]
          rw [e148]
          clear e148
          have hqM := tfz.hq
          have c20 : Wz.cell? ⟨q20, 0, none⟩ = some (.int .i64 (k : Int)) := (k20z.cell 0).trans rfl
          have f20 : Wz.frozen? ⟨q20, 0, none⟩ = false := k20z.frozen 0
          have hset := k20z.set 0 (.int .i64 ((k : Int) + 1))
          have k19s := k19z.far (p := ⟨q20, 0, none⟩) (by show q19 ≠ q20; omega) (.int .i64 ((k : Int) + 1))
          have k5s := tfz.k5.far (p := ⟨q20, 0, none⟩) (by show q + 1 ≠ q20; omega) (.int .i64 ((k : Int) + 1))
          have c20s : (Wz.setCell ⟨q20, 0, none⟩ (.int .i64 ((k : Int) + 1))).cell? ⟨q20, 0, none⟩ = some (.int .i64 ((k : Int) + 1)) := (hset.cell 0).trans rfl
          have c19s : (Wz.setCell ⟨q20, 0, none⟩ (.int .i64 ((k : Int) + 1))).cell? ⟨q19, 0, none⟩ = some (.int .i64 0) := (k19s.cell 0).trans rfl
          have c5s : (Wz.setCell ⟨q20, 0, none⟩ (.int .i64 ((k : Int) + 1))).cell? ⟨q + 1, 0, none⟩ = some (.int .i64 many) := (k5s.cell 0).trans rfl
          have hwr1 : IntKind.i64.wrap ((k : Int) + 1) = (k : Int) + 1 := IntWalk.i64_in _ (by omega)
          have hkwX : KeepW (fun b => b = q20) noFr X (Wz.setCell ⟨q20, 0, none⟩ (.int .i64 ((k : Int) + 1))) := (KeepW.later hL).trans (KeepW.set Wz ⟨q20, 0, none⟩ _ rfl)
          have hkf : KeepsFrom WA.heap.size X (Wz.setCell ⟨q20, 0, none⟩ (.int .i64 ((k : Int) + 1))) := hkwX.from (fun b h => by omega) (fun b o e => by cases e)
          have hkw2 : KeepW (fun b => b = q20 ∨ b = WA.heap.size + 1) noFr X (Wz.setCell ⟨q20, 0, none⟩ (.int .i64 ((k : Int) + 1))) := hkwX.mono (fun b h => .inl h) rfl
          have hsame : Same (fun k => k < WA.heap.size ∧ k ≠ q20) WA (Wz.setCell ⟨q20, 0, none⟩ (.int .i64 ((k : Int) + 1))) := (h4.trans ((Same.of_below hL).mono fun k hk => by have := hk.1; omega)).trans ((Same.set Wz ⟨q20, 0, none⟩ _).mono fun k hk => hk.2)
          clear k19s k5s hkwX h4 hL tfz k20z k19z
          by_cases hbr : many ≤ (k : Int) + 1
          · have hdb : decide (many ≤ (k : Int) + 1) = true := decide_eq_true hbr
            gi_wp2_with fail
            exact ⟨hkf, hkw2, rfl, by rw [HPL.out]; exact HZE.out k hki hcond hbr, by rw [HPL.out]; exact hset, hsame⟩
          · have hdb : decide (many ≤ (k : Int) + 1) = false := decide_eq_false hbr
            gi_wp2_with fail
            exact ⟨hkf, hkw2, by rw [HPL.out]; exact hki, .inr (by rw [HPL.out]; omega), by rw [HPL.out]; exact hset, hsame⟩
        case done =>
          rintro D0 ys X hD hS ⟨h1, h2, h3, h4⟩ hK
          have hyK : ys.length = K := by
            by_cases e : ys.length = K
            · exact e
            · have hg := HGO.out ys.length (by omega)
              rw [hS.1] at hg
              cases hg
          rw [hyK] at h2 h3
          have hZK := HZD.out h2
          exact hrest D0 X hD hK (by rw [hZK]; exact h3) h4
        case stop =>
          rintro D0 c' pre X hD hSp ⟨rfl, hZ, h3, h4⟩ hK
          rw [hZ] at h3
          gi_wp2
          exact hrest D0 X hD hK h3 h4
  rw [hT0] at hrest ⊢
  simp only [List.setIfInBounds_toArray, List.set_cons_succ, List.set_cons_zero] at hrest
  clear hT0 hK4
  have HREST := Lib.hid hrest
  clear hrest
  refine (wpIn_wide (n := 0)).1 ?_
  cases rb
  · have he8 := HE8.out
    rw [if_neg (by simp)] at he8
    subst he8
    have hl7 := HL7.out
    rw [if_neg (by simp)] at hl7
    subst hl7
    obtain rfl : 0 = N7 := HN7.out
    refine wpIn_region_vals wide_wide [Pr.eq (.pointer (some ⟨q, 32, none⟩)), Pr.eq (.agg (saidC t.s)), Pr.eq (.bool false), Pr.eq (.int .i64 2), Pr.eq (.int .i64 2), Pr.eq (.bool false), Pr.eq (.bool false), Pr.eq (.bool false), Pr.eq (.int .i64 2), Pr.eq (.int .i64 2), Pr.eq (.bool true), Pr.eq (.bool true), Pr.eq (.int .i64 2), Pr.eq (.int .i64 2), Pr.eq (.bool false), Pr.eq (.bool false), Pr.eq (.slice A7 0 c7), Pr.eq (.int .i64 (0 : Int)), Pr.eq (.bool false), Pr.eq (.bool false), Pr.eq (.bool false), Pr.eq (.bool false), Pr.eq (.bool false), Pr.eq (.int .i64 2), Pr.eq (.int .i64 2), Pr.eq (.bool false), Pr.eq (.bool false), Pr.eq (undef), Pr.eq (undef), Pr.eq (undef), Pr.eq (undef), Pr.eq (undef), Pr.eq (undef), Pr.eq (.bool false), Pr.eq (.bool false)] (by kernel_rfl) (by kernel_rfl) (by kernel_rfl) (by kernel_rfl) (by kernel_rfl) ⟨?_, ?_, ?_, ?_, ?_, ?_, ?_, ?_, ?_, ?_, ?_, ?_, ?_, ?_, ?_, ?_, ?_, ?_, ?_, ?_, ?_, ?_, ?_, ?_, ?_, ?_, ?_, ?_, ?_, ?_, ?_, ?_, ?_, ?_, ?_, trivial⟩ ?_
    · exact fun ac W hL he => stepOk_want rfl (op_fieldAddr rfl (he.keep (.tmp 3) (by kernel_rfl)) fieldTold1 rfl)
    · exact fun ac W hL he => stepOk_want rfl (op_load rfl (he.get 0 38 (by kernel_rfl) rfl) (loadToldS HHT.out (k33.later hL)) rfl)
    · intro ac W hL he; refine stepOk_want rfl ?_; have e0 : ac.eval (.tmp 39) = .agg (saidC t.s) := (he.get 1 39 (by kernel_rfl) rfl); exact op_callF (vs := #[.agg (saidC t.s)]) rfl (by simp only [List.map_toArray, List.map_cons, List.map_nil, e0]) (enters_of Tryz.func11 (by kernel_rfl) rfl) (((HRT.out W)).mono fun e W' ⟨he', hb⟩ => ⟨_, he', hb, rfl⟩)
    · exact fun ac W hL he => stepOk_want rfl (op_move rfl (he.keep (.tmp 8) (by kernel_rfl)))
    · intro ac W hL he; refine stepOk_want rfl ?_; have e0 : ac.eval (.tmp 41) = .int .i64 2 := (he.get 3 41 (by kernel_rfl) rfl); exact op_callF (vs := #[.int .i64 2]) rfl (by simp only [List.map_toArray, List.map_cons, List.map_nil, e0]) (enters_of Tryz.func12 (by kernel_rfl) rfl) (((num_n 2 W (by decide))).mono fun e W' ⟨he', hw'⟩ => ⟨_, he', hw' ▸ Later.refl _, rfl⟩)
    · exact fun ac W hL he => stepOk_want rfl (op_binOp rfl (he.get 4 42 (by kernel_rfl) rfl) rfl eqgI (eqlI20 W) rfl)
    · exact fun ac W hL he => stepOk_want rfl (op_binOp rfl (he.get 2 40 (by kernel_rfl) rfl) (he.get 5 43 (by kernel_rfl) rfl) eqgB (neqBme false W) rfl)
    · exact fun ac W hL he => stepOk_want rfl (op_move rfl (he.get 6 44 (by kernel_rfl) rfl))
    · exact fun ac W hL he => stepOk_yes (j := 7) (t := 45) (b := false) rfl rfl (he.get 7 45 (by kernel_rfl) rfl) (op_move rfl (he.keep (.tmp 8) (by kernel_rfl)))
    · intro ac W hL he; refine stepOk_yes (j := 7) (t := 45) (b := false) rfl rfl (he.get 7 45 (by kernel_rfl) rfl) ?_; have e0 : ac.eval (.tmp 46) = .int .i64 2 := (he.get 8 46 (by kernel_rfl) rfl); exact op_callF (vs := #[.int .i64 2]) rfl (by simp only [List.map_toArray, List.map_cons, List.map_nil, e0]) (enters_of Tryz.func12 (by kernel_rfl) rfl) (((num_n 2 W (by decide))).mono fun e W' ⟨he', hw'⟩ => ⟨_, he', hw' ▸ Later.refl _, rfl⟩)
    · exact fun ac W hL he => stepOk_yes (j := 7) (t := 45) (b := false) rfl rfl (he.get 7 45 (by kernel_rfl) rfl) (op_binOp rfl (he.get 9 47 (by kernel_rfl) rfl) rfl eqgI (neqI20 W) rfl)
    · exact fun ac W hL he => stepOk_yes (j := 7) (t := 45) (b := false) rfl rfl (he.get 7 45 (by kernel_rfl) rfl) (op_move rfl (he.get 10 48 (by kernel_rfl) rfl))
    · exact fun ac W hL he => stepOk_yes (j := 11) (t := 49) (b := true) rfl rfl (he.get 11 49 (by kernel_rfl) rfl) (op_move rfl (he.keep (.tmp 8) (by kernel_rfl)))
    · intro ac W hL he; refine stepOk_yes (j := 11) (t := 49) (b := true) rfl rfl (he.get 11 49 (by kernel_rfl) rfl) ?_; have e0 : ac.eval (.tmp 50) = .int .i64 2 := (he.get 12 50 (by kernel_rfl) rfl); exact op_callF (vs := #[.int .i64 2]) rfl (by simp only [List.map_toArray, List.map_cons, List.map_nil, e0]) (enters_of Tryz.func12 (by kernel_rfl) rfl) (((num_n 2 W (by decide))).mono fun e W' ⟨he', hw'⟩ => ⟨_, he', hw' ▸ Later.refl _, rfl⟩)
    · exact fun ac W hL he => stepOk_yes (j := 11) (t := 49) (b := true) rfl rfl (he.get 11 49 (by kernel_rfl) rfl) (op_binOp rfl (he.get 13 51 (by kernel_rfl) rfl) rfl eqgI (neqI_me _ _ _) rfl)
    · exact fun ac W hL he => stepOk_yes (j := 11) (t := 49) (b := true) rfl rfl (he.get 11 49 (by kernel_rfl) rfl) (op_move rfl (he.get 14 52 (by kernel_rfl) rfl))
    · exact fun ac W hL he => stepOk_yes (j := 15) (t := 53) (b := false) rfl rfl (he.get 15 53 (by kernel_rfl) rfl) (op_move rfl (he.keep (.tmp 7) (by kernel_rfl)))
    · exact fun ac W hL he => stepOk_yes (j := 15) (t := 53) (b := false) rfl rfl (he.get 15 53 (by kernel_rfl) rfl) (op_len Tryz.underlying32 rfl (he.get 16 54 (by kernel_rfl) rfl) rfl)
    · exact fun ac W hL he => stepOk_yes (j := 15) (t := 53) (b := false) rfl rfl (he.get 15 53 (by kernel_rfl) rfl) (op_binOp rfl (he.get 17 55 (by kernel_rfl) rfl) rfl eqgI (neqI_me _ _ _) rfl)
    · exact fun ac W hL he => stepOk_yes (j := 11) (t := 49) (b := true) rfl rfl (he.get 11 49 (by kernel_rfl) rfl) (op_pick (b := false) rfl (he.get 15 53 (by kernel_rfl) rfl) (he.get 18 56 (by kernel_rfl) rfl))
    · exact fun ac W hL he => stepOk_yes (j := 7) (t := 45) (b := false) rfl rfl (he.get 7 45 (by kernel_rfl) rfl) (op_pick (b := true) rfl (he.get 11 49 (by kernel_rfl) rfl) (he.get 19 57 (by kernel_rfl) rfl))
    · exact fun ac W hL he => stepOk_want rfl (op_pick (b := false) rfl (he.get 7 45 (by kernel_rfl) rfl) (he.get 20 58 (by kernel_rfl) rfl))
    · exact fun ac W hL he => stepOk_want rfl (op_move rfl (he.get 21 59 (by kernel_rfl) rfl))
    · exact fun ac W hL he => stepOk_yes (j := 22) (t := 60) (b := false) rfl rfl (he.get 22 60 (by kernel_rfl) rfl) (op_move rfl (he.keep (.tmp 8) (by kernel_rfl)))
    · intro ac W hL he; refine stepOk_yes (j := 22) (t := 60) (b := false) rfl rfl (he.get 22 60 (by kernel_rfl) rfl) ?_; have e0 : ac.eval (.tmp 61) = .int .i64 2 := (he.get 23 61 (by kernel_rfl) rfl); exact op_callF (vs := #[.int .i64 2]) rfl (by simp only [List.map_toArray, List.map_cons, List.map_nil, e0]) (enters_of Tryz.func12 (by kernel_rfl) rfl) (((num_n 2 W (by decide))).mono fun e W' ⟨he', hw'⟩ => ⟨_, he', hw' ▸ Later.refl _, rfl⟩)
    · exact fun ac W hL he => stepOk_yes (j := 22) (t := 60) (b := false) rfl rfl (he.get 22 60 (by kernel_rfl) rfl) (op_binOp rfl (he.get 24 62 (by kernel_rfl) rfl) rfl eqgI (eqlI20 W) rfl)
    · exact fun ac W hL he => stepOk_yes (j := 22) (t := 60) (b := false) rfl rfl (he.get 22 60 (by kernel_rfl) rfl) (op_move rfl (he.get 25 63 (by kernel_rfl) rfl))
    · exact fun ac W hL he => stepOk_no rfl rfl (he.get 26 64 (by kernel_rfl) rfl) (by decide) rfl
    · exact fun ac W hL he => stepOk_no rfl rfl (he.get 26 64 (by kernel_rfl) rfl) (by decide) rfl
    · exact fun ac W hL he => stepOk_no rfl rfl (he.get 26 64 (by kernel_rfl) rfl) (by decide) rfl
    · exact fun ac W hL he => stepOk_no rfl rfl (he.get 26 64 (by kernel_rfl) rfl) (by decide) rfl
    · exact fun ac W hL he => stepOk_no rfl rfl (he.get 26 64 (by kernel_rfl) rfl) (by decide) rfl
    · exact fun ac W hL he => stepOk_no rfl rfl (he.get 26 64 (by kernel_rfl) rfl) (by decide) rfl
    · exact fun ac W hL he => stepOk_yes (j := 22) (t := 60) (b := false) rfl rfl (he.get 22 60 (by kernel_rfl) rfl) (op_pick (b := false) rfl (he.get 26 64 (by kernel_rfl) rfl) rfl)
    · exact fun ac W hL he => stepOk_want rfl (op_pick (b := false) rfl (he.get 22 60 (by kernel_rfl) rfl) (he.get 33 71 (by kernel_rfl) rfl))
    intro zz w5 hL hzz
    have e72 : zz 34 = .bool false := hzz 34 (by decide)
    clear hzz
    simp only [putL, Nat.reduceAdd, Act.put, List.setIfInBounds_toArray, List.set_cons_succ, List.set_cons_zero]
    rw [e72]
    exact HREST.out _ _ _ _ _ _ _ _ _ _ _ _ _ _ _ _ _ _ _ _ _ _ _ _ _ _ _ _ _ _ _ _ _ _ _ hL
  · have he8 := HE8.out
    rw [if_pos rfl] at he8
    subst he8
    have hl7 := HL7.out
    rw [if_pos rfl] at hl7
    subst hl7
    refine wpIn_region_vals wide_wide [Pr.eq (.pointer (some ⟨q, 32, none⟩)), Pr.eq (.agg (saidC t.s)), Pr.eq (.bool true), Pr.eq (.int .i64 0), Pr.eq (.int .i64 0), Pr.eq (.bool true), Pr.eq (.bool false), Pr.eq (.bool false), Pr.eq (.int .i64 0), Pr.eq (.int .i64 0), Pr.eq (.bool false), Pr.eq (.bool false), Pr.eq (undef), Pr.eq (undef), Pr.eq (undef), Pr.eq (undef), Pr.eq (undef), Pr.eq (undef), Pr.eq (undef), Pr.eq (undef), Pr.eq (.bool false), Pr.eq (.bool false), Pr.eq (.bool false), Pr.eq (.int .i64 0), Pr.eq (.int .i64 0), Pr.eq (.bool true), Pr.eq (.bool true), Pr.eq (.slice A7 N7 c7), Pr.eq (.string ⟨(rawOf t).toArray⟩), Pr.eq (.agg (toldC t)), Pr.rd (rawOf t).length (rawOf t), Pr.eq (.string ⟨(rawOf t).toArray⟩), Pr.eq (.bool false), Pr.eq (.bool false), Pr.eq (.bool false)] (by kernel_rfl) (by kernel_rfl) (by kernel_rfl) (by kernel_rfl) (by kernel_rfl) ⟨?_, ?_, ?_, ?_, ?_, ?_, ?_, ?_, ?_, ?_, ?_, ?_, ?_, ?_, ?_, ?_, ?_, ?_, ?_, ?_, ?_, ?_, ?_, ?_, ?_, ?_, ?_, ?_, ?_, ?_, ?_, ?_, ?_, ?_, ?_, trivial⟩ ?_
    · exact fun ac W hL he => stepOk_want rfl (op_fieldAddr rfl (he.keep (.tmp 3) (by kernel_rfl)) fieldTold1 rfl)
    · exact fun ac W hL he => stepOk_want rfl (op_load rfl (he.get 0 38 (by kernel_rfl) rfl) (loadToldS HHT.out (k33.later hL)) rfl)
    · intro ac W hL he; refine stepOk_want rfl ?_; have e0 : ac.eval (.tmp 39) = .agg (saidC t.s) := (he.get 1 39 (by kernel_rfl) rfl); exact op_callF (vs := #[.agg (saidC t.s)]) rfl (by simp only [List.map_toArray, List.map_cons, List.map_nil, e0]) (enters_of Tryz.func11 (by kernel_rfl) rfl) (((HRT.out W)).mono fun e W' ⟨he', hb⟩ => ⟨_, he', hb, rfl⟩)
    · exact fun ac W hL he => stepOk_want rfl (op_move rfl (he.keep (.tmp 8) (by kernel_rfl)))
    · intro ac W hL he; refine stepOk_want rfl ?_; have e0 : ac.eval (.tmp 41) = .int .i64 0 := (he.get 3 41 (by kernel_rfl) rfl); exact op_callF (vs := #[.int .i64 0]) rfl (by simp only [List.map_toArray, List.map_cons, List.map_nil, e0]) (enters_of Tryz.func12 (by kernel_rfl) rfl) (((num_n 0 W (by decide))).mono fun e W' ⟨he', hw'⟩ => ⟨_, he', hw' ▸ Later.refl _, rfl⟩)
    · exact fun ac W hL he => stepOk_want rfl (op_binOp rfl (he.get 4 42 (by kernel_rfl) rfl) rfl eqgI (eqlII 0 W) rfl)
    · exact fun ac W hL he => stepOk_want rfl (op_binOp rfl (he.get 2 40 (by kernel_rfl) rfl) (he.get 5 43 (by kernel_rfl) rfl) eqgB (neqBme true W) rfl)
    · exact fun ac W hL he => stepOk_want rfl (op_move rfl (he.get 6 44 (by kernel_rfl) rfl))
    · exact fun ac W hL he => stepOk_yes (j := 7) (t := 45) (b := false) rfl rfl (he.get 7 45 (by kernel_rfl) rfl) (op_move rfl (he.keep (.tmp 8) (by kernel_rfl)))
    · intro ac W hL he; refine stepOk_yes (j := 7) (t := 45) (b := false) rfl rfl (he.get 7 45 (by kernel_rfl) rfl) ?_; have e0 : ac.eval (.tmp 46) = .int .i64 0 := (he.get 8 46 (by kernel_rfl) rfl); exact op_callF (vs := #[.int .i64 0]) rfl (by simp only [List.map_toArray, List.map_cons, List.map_nil, e0]) (enters_of Tryz.func12 (by kernel_rfl) rfl) (((num_n 0 W (by decide))).mono fun e W' ⟨he', hw'⟩ => ⟨_, he', hw' ▸ Later.refl _, rfl⟩)
    · exact fun ac W hL he => stepOk_yes (j := 7) (t := 45) (b := false) rfl rfl (he.get 7 45 (by kernel_rfl) rfl) (op_binOp rfl (he.get 9 47 (by kernel_rfl) rfl) rfl eqgI (neqI_me _ _ _) rfl)
    · exact fun ac W hL he => stepOk_yes (j := 7) (t := 45) (b := false) rfl rfl (he.get 7 45 (by kernel_rfl) rfl) (op_move rfl (he.get 10 48 (by kernel_rfl) rfl))
    · exact fun ac W hL he => stepOk_no rfl rfl (he.get 11 49 (by kernel_rfl) rfl) (by decide) rfl
    · exact fun ac W hL he => stepOk_no rfl rfl (he.get 11 49 (by kernel_rfl) rfl) (by decide) rfl
    · exact fun ac W hL he => stepOk_no rfl rfl (he.get 11 49 (by kernel_rfl) rfl) (by decide) rfl
    · exact fun ac W hL he => stepOk_no rfl rfl (he.get 11 49 (by kernel_rfl) rfl) (by decide) rfl
    · exact fun ac W hL he => stepOk_undef rfl rfl (he.get 15 53 (by kernel_rfl) rfl) rfl
    · exact fun ac W hL he => stepOk_undef rfl rfl (he.get 15 53 (by kernel_rfl) rfl) rfl
    · exact fun ac W hL he => stepOk_undef rfl rfl (he.get 15 53 (by kernel_rfl) rfl) rfl
    · exact fun ac W hL he => stepOk_no rfl rfl (he.get 11 49 (by kernel_rfl) rfl) (by decide) rfl
    · exact fun ac W hL he => stepOk_yes (j := 7) (t := 45) (b := false) rfl rfl (he.get 7 45 (by kernel_rfl) rfl) (op_pick (b := false) rfl (he.get 11 49 (by kernel_rfl) rfl) rfl)
    · exact fun ac W hL he => stepOk_want rfl (op_pick (b := false) rfl (he.get 7 45 (by kernel_rfl) rfl) (he.get 20 58 (by kernel_rfl) rfl))
    · exact fun ac W hL he => stepOk_want rfl (op_move rfl (he.get 21 59 (by kernel_rfl) rfl))
    · exact fun ac W hL he => stepOk_yes (j := 22) (t := 60) (b := false) rfl rfl (he.get 22 60 (by kernel_rfl) rfl) (op_move rfl (he.keep (.tmp 8) (by kernel_rfl)))
    · intro ac W hL he; refine stepOk_yes (j := 22) (t := 60) (b := false) rfl rfl (he.get 22 60 (by kernel_rfl) rfl) ?_; have e0 : ac.eval (.tmp 61) = .int .i64 0 := (he.get 23 61 (by kernel_rfl) rfl); exact op_callF (vs := #[.int .i64 0]) rfl (by simp only [List.map_toArray, List.map_cons, List.map_nil, e0]) (enters_of Tryz.func12 (by kernel_rfl) rfl) (((num_n 0 W (by decide))).mono fun e W' ⟨he', hw'⟩ => ⟨_, he', hw' ▸ Later.refl _, rfl⟩)
    · exact fun ac W hL he => stepOk_yes (j := 22) (t := 60) (b := false) rfl rfl (he.get 22 60 (by kernel_rfl) rfl) (op_binOp rfl (he.get 24 62 (by kernel_rfl) rfl) rfl eqgI (eqlII 0 W) rfl)
    · exact fun ac W hL he => stepOk_yes (j := 22) (t := 60) (b := false) rfl rfl (he.get 22 60 (by kernel_rfl) rfl) (op_move rfl (he.get 25 63 (by kernel_rfl) rfl))
    · exact fun ac W hL he => stepOk_yes (j := 26) (t := 64) (b := true) rfl rfl (he.get 26 64 (by kernel_rfl) rfl) (op_move rfl (he.keep (.tmp 7) (by kernel_rfl)))
    · exact fun ac W hL he => stepOk_yes (j := 26) (t := 64) (b := true) rfl rfl (he.get 26 64 (by kernel_rfl) rfl) (op_convert rfl (he.get 27 65 (by kernel_rfl) rfl) (strOf (hrd7.later (show Later w3 W from hL)) HN7.out) (Later.refl _) rfl)
    · exact fun ac W hL he => stepOk_yes (j := 26) (t := 64) (b := true) rfl rfl (he.get 26 64 (by kernel_rfl) rfl) (op_load rfl (he.keep (.tmp 3) (by kernel_rfl)) (loadTold HHT.out (k33.later hL)) rfl)
    · intro ac W hL he; refine stepOk_yes (j := 26) (t := 64) (b := true) rfl rfl (he.get 26 64 (by kernel_rfl) rfl) ?_; have e0 : ac.eval (.tmp 67) = .agg (toldC t) := he.get 29 67 (by kernel_rfl) rfl; exact op_callF (vs := #[.agg (toldC t)]) rfl (by simp only [List.map_toArray, List.map_cons, List.map_nil, e0]) (enters_of Tryz.func19 (by kernel_rfl) rfl) ((HREF.out rfl W).mono fun e W' ⟨v, he', hown, hL'⟩ => ⟨v, he', hL', own_rd hown⟩)
    · intro ac W hL he; refine stepOk_yes (j := 26) (t := 64) (b := true) rfl rfl (he.get 26 64 (by kernel_rfl) rfl) ?_; obtain ⟨A5, c5, e0, hc5, hrd5⟩ := he.get 30 68 (by kernel_rfl) rfl; exact op_convert rfl e0 (strOf hrd5 rfl) (Later.refl _) rfl
    · exact fun ac W hL he => stepOk_yes (j := 26) (t := 64) (b := true) rfl rfl (he.get 26 64 (by kernel_rfl) rfl) (op_binOp rfl (he.get 28 66 (by kernel_rfl) rfl) (he.get 31 69 (by kernel_rfl) rfl) eqgS (neqS_self _ _) rfl)
    · exact fun ac W hL he => stepOk_yes (j := 22) (t := 60) (b := false) rfl rfl (he.get 22 60 (by kernel_rfl) rfl) (op_pick (b := true) rfl (he.get 26 64 (by kernel_rfl) rfl) (he.get 32 70 (by kernel_rfl) rfl))
    · exact fun ac W hL he => stepOk_want rfl (op_pick (b := false) rfl (he.get 22 60 (by kernel_rfl) rfl) (he.get 33 71 (by kernel_rfl) rfl))
    intro zz w5 hL hzz
    have e72 : zz 34 = .bool false := hzz 34 (by decide)
    clear hzz
    simp only [putL, Nat.reduceAdd, Act.put, List.setIfInBounds_toArray, List.set_cons_succ, List.set_cons_zero]
    rw [e72]
    exact HREST.out _ _ _ _ _ _ _ _ _ _ _ _ _ _ _ _ _ _ _ _ _ _ _ _ _ _ _ _ _ _ _ _ _ _ _ hL
end Go.Proofs.YtcajhdmppfiaeaaGreat
namespace Go.Proofs.YtcajhdmppfiaeaaGreat
open Go.ChangeShapes Go.WideShapes Go.ChangeAt Go.RowKit Ms
def toldT : List TypeId := List.replicate 32 5 ++ saidT
theorem toldT_eq : Tryz.prog.cellTypes Tryz.prog.depth 48 = some toldT := by kernel_rfl
set_option maxRecDepth 100000 in
theorem told_cells {w : World} {r : Reach} {b : Nat} {cs : Array Value} (hsz : cs.size = 334) (hcell : ∀ i, i < 334 → ∃ u, toldT[i]? = some u ∧ Cell.okWide Tryz.prog w r b u (cs.getD i undef)) : ∃ t : Tell, t.wf ∧ t.s.route.length ≤ 9223372036854775807 ∧ cs = toldC t := by
  have hlen : toldT.length = 334 := by decide +kernel
  have hls : saidT.length = 302 := by decide +kernel
  have hget : ∀ i, i < 334 → cs[i]? = some (cs.getD i undef) := fun i hi => by
    rw [Array.getElem?_eq_getElem (by omega)]
    simp [Array.getD, hsz, hi]
  have hby : ∀ i, i < 32 → ∃ n : Int, cs.getD i undef = .int .u8 n ∧ 0 ≤ n ∧ n ≤ 255 := fun i hi => by
    obtain ⟨u, h1, h2⟩ := hcell i (by omega)
    unfold toldT at h1
    rw [List.getElem?_append_left (by simp; omega), List.getElem?_replicate, if_pos hi] at h1
    injection h1 with h1
    subst h1
    obtain ⟨n, e, hn⟩ := cellW_int Tryz.underlying5 h2
    refine ⟨n, e, ?_⟩
    simp [IntKind.has, IntKind.min, IntKind.max, IntKind.signed, IntKind.bits] at hn
    omega
  have hes : (cs.extract 32 334).size = 302 := by rw [Array.size_extract]; omega
  have heg : ∀ i, i < 302 → (cs.extract 32 334)[i]? = some (cs.getD (32 + i) undef) := fun i hi => by
    rw [Array.getElem?_extract, if_pos (by omega)]
    exact hget (32 + i) (by omega)
  have hsaid : Value.okWide Tryz.prog w r b 29 (.agg (cs.extract 32 334)) := by
    unfold Value.okWide
    rw [Tryz.underlying29]
    refine ⟨_, rfl, by rw [hes]; kernel_rfl, saidT, saidT_eq, ⟨1, by rw [hes, hls]⟩, fun i v hv => ?_⟩
    have hi : i < 302 := by
      rcases Nat.lt_or_ge i 302 with h | h
      · exact h
      · rw [Array.getElem?_eq_none (by omega)] at hv; cases hv
    rw [heg i hi] at hv
    injection hv with hv
    subst hv
    obtain ⟨u, h1, h2⟩ := hcell (32 + i) (by omega)
    unfold toldT at h1
    rw [List.getElem?_append_right (by simp)] at h1
    refine ⟨u, ?_, h2⟩
    rw [hls, Nat.mod_eq_of_lt hi]
    simpa using h1
  obtain ⟨s, hw, hm, e⟩ := open_said hsaid
  injection e with e
  have hh : ((List.range 32).map fun i => sByV (cs.getD i undef)).length = 32 := by simp
  refine ⟨⟨(List.range 32).map fun i => sByV (cs.getD i undef), s⟩, ⟨hh, hw⟩, hm, ?_⟩
  apply Array.ext_getElem?
  intro i
  by_cases hi : i < 32
  · have h1 := toldC_h (t := ⟨(List.range 32).map fun i => sByV (cs.getD i undef), s⟩) ⟨hh, hw⟩ i hi
    rw [Nat.zero_add] at h1
    rw [h1, hC_full _ hh, hget i (by omega), List.map_map, List.getElem?_toArray, List.getElem?_map, List.getElem?_range (by omega)]
    obtain ⟨n, e2, h0, h5⟩ := hby i hi
    show _ = some (byteV (sByV (cs.getD i undef)))
    rw [e2]
    unfold byteV sByV
    rw [UInt8.toNat_ofNat']
    congr 2
    omega
  · by_cases hi2 : i < 334
    · obtain ⟨k, rfl⟩ : ∃ k, i = 32 + k := ⟨i - 32, by omega⟩
      rw [toldC_s (t := ⟨(List.range 32).map fun i => sByV (cs.getD i undef), s⟩) ⟨hh, hw⟩ k, ← e, heg k (by omega), hget (32 + k) (by omega)]
    · rw [Array.getElem?_eq_none (by omega), Array.getElem?_eq_none (by rw [toldC_size ⟨hh, hw⟩]; omega)]
set_option maxRecDepth 100000 in
theorem open_told {w : World} {r : Reach} {b : Nat} {v : Value} (hv : Value.okWide Tryz.prog w r b 48 v) : ∃ t : Tell, t.wf ∧ t.s.route.length ≤ 9223372036854775807 ∧ v = .agg (toldC t) := by
  unfold Value.okWide at hv
  obtain ⟨cs, rfl, hsz, ts, hts, _, hc⟩ : ∃ cs, v = .agg cs ∧ cs.size = Tryz.prog.cellsOf 48 ∧ Row.okWide Tryz.prog w r b 48 cs := by
    rw [Tryz.underlying48] at hv
    exact hv
  rw [toldT_eq] at hts
  injection hts with hts
  subst hts
  rw [show Tryz.prog.cellsOf 48 = 334 by kernel_rfl] at hsz
  have hlen : toldT.length = 334 := by decide +kernel
  obtain ⟨t, h1, h2, h3⟩ := told_cells (w := w) (r := r) (b := b) hsz (fun i hi => by
    obtain ⟨u, h1, h2⟩ := hc i cs[i] (Array.getElem?_eq_getElem (by omega))
    rw [hlen, Nat.mod_eq_of_lt hi] at h1
    exact ⟨u, h1, by simpa [Array.getD, hsz, hi] using h2⟩)
  exact ⟨t, h1, h2, by rw [h3]⟩
set_option maxRecDepth 100000 in
set_option maxHeartbeats 4000000 in
theorem msgsReads_out (t : Tell) (ht : t.wf) (hm : t.s.route.length ≤ 9223372036854775807) (A : Option Addr) (n c : Nat) (many : Int) (w : World) (hout : decide (t.s.route.length ≤ 600) = false ∨ 2000 < n) :
    Calls Tryz.prog 7 #[.agg (toldC t), .slice A n c, .int .i64 many] w fun e w' => e = .returned (.bool true) ∧ Below w.heap.size w w' := by
  refine Calls.post fun Φ HΦ => ?_
  have k3 := ((Row.new w 48 (toldC t)).alloc (.cells #[.int .i64 many] 3)).alloc (.cells #[.bool false] 4)
  have k6 := Row.new ((w.alloc (.cells (toldC t) 48)).alloc (.cells #[.int .i64 many] 3)) 4 #[.bool false]
  have hL1 := (((Later.refl w).alloc (.cells (toldC t) 48)).alloc (.cells #[.int .i64 many] 3)).alloc (.cells #[.bool false] 4)
  have hbx := boxTold ht w
  simp only [World.size_alloc] at k6
  obtain ⟨fb, hfb⟩ : ∃ b, decide (t.s.route.length ≤ 600) = b := ⟨_, rfl⟩
  have HFW := Lib.hid (fun W => hfb ▸ few_any t.s ht.2 hm W)
  rw [hfb] at hout
  have HHT := Lib.hid ht
  clear ht hm hfb
  go_enter Tryz.func7, Tryz.ntmps7
  go_upto_region 1 with fail
  obtain ⟨q, hq⟩ : ∃ q, q = w.heap.size := ⟨_, rfl⟩
  rw [← hq] at k3 k6 ⊢
  obtain ⟨r, hrr⟩ : ∃ r, r = q + 1 + 1 := ⟨_, rfl⟩
  rw [← hrr] at k6 ⊢
  have HRR := Lib.hid hrr
  have HQ := Lib.hid hq
  clear hq hbx hrr
  generalize ((w.alloc (.cells (toldC t) 48)).alloc (.cells #[.int .i64 many] 3)).alloc (.cells #[.bool false] 4) = w1 at *
  have hldS := loadToldS HHT.out k3
  have hf1 := fun W => fieldTold1 (g := q) (o := 0) (W := W)
  cases fb
  · clear hout
    go_wp2_with (first
      | (guard_target =~ wpList _ _ _ (_ :: _) _ _; refine wpList_load rfl 29 (.tmp 23) rfl (.pointer (some ⟨q, 32, none⟩)) rfl hldS ?_)
      | (go_at_call 8; refine (HFW.out _).mono ?_; rintro e w2 ⟨rfl, hL2⟩)
      | (go_at_call 9; refine (works_yes _).mono ?_; rintro e w7 ⟨rfl, hL7⟩; have k67 := (k6.later hL2).later hL7; have c67 : w7.cell? ⟨r, 0, none⟩ = some (.bool false) := (k67.cell 0).trans rfl; have f67 : w7.frozen? ⟨r, 0, none⟩ = false := k67.frozen 0)
      | fail)
    have hcv : (w7.setCell ⟨r, 0, none⟩ (.bool true)).cell? ⟨r, 0, none⟩ = some (.bool true) := ((k67.set 0 (.bool true)).cell 0).trans rfl
    exact bodyPost_ret (v := .bool true) (by simp [results, Tryz.results7, go_sem, hcv]) rfl (HΦ.out _ _ ⟨rfl, ((hL1.step hL2).step hL7).setCell (p := ⟨r, 0, none⟩) (by have := HQ.out; have := HRR.out; show w.heap.size ≤ r; omega) _⟩)
  · have h2 : 2000 < n := by rcases hout with h | h; cases h; exact h
    have d2 : decide ((2000 : Int) < (n : Int)) = true := decide_eq_true (by omega)
    have d2' : decide (2000 < n) = true := decide_eq_true h2
    clear hout
    go_wp2_with (first
      | (guard_target =~ wpList _ _ _ (_ :: _) _ _; refine wpList_load rfl 29 (.tmp 23) rfl (.pointer (some ⟨q, 32, none⟩)) rfl hldS ?_)
      | (go_at_call 8; refine (HFW.out _).mono ?_; rintro e w2 ⟨rfl, hL2⟩)
      | (go_at_call 9; refine (works_yes _).mono ?_; rintro e w7 ⟨rfl, hL7⟩; have k67 := (k6.later hL2).later hL7; have c67 : w7.cell? ⟨r, 0, none⟩ = some (.bool false) := (k67.cell 0).trans rfl; have f67 : w7.frozen? ⟨r, 0, none⟩ = false := k67.frozen 0)
      | fail)
    have hcv : (w7.setCell ⟨r, 0, none⟩ (.bool true)).cell? ⟨r, 0, none⟩ = some (.bool true) := ((k67.set 0 (.bool true)).cell 0).trans rfl
    exact bodyPost_ret (v := .bool true) (by simp [results, Tryz.results7, go_sem, hcv]) rfl (HΦ.out _ _ ⟨rfl, ((hL1.step hL2).step hL7).setCell (p := ⟨r, 0, none⟩) (by have := HQ.out; have := HRR.out; show w.heap.size ≤ r; omega) _⟩)
theorem msgsReads_walk (v : Value) (A : Option Addr) (n c : Nat) (l : List UInt8) (many : Int) (wm : (Lit.int .i64 many).wf = true) (w : World) (ht : ∃ t : Tell, t.wf ∧ t.s.route.length ≤ 9223372036854775807 ∧ v = .agg (toldC t)) (hi : InBytes w A n c l) :
    Calls Tryz.prog 7 #[v, .slice A n c, .int .i64 many] w fun e w' => e = .returned (.bool true) ∧ Below w.heap.size w w' := by
  obtain ⟨t, htw, hm, rfl⟩ := ht
  have h5 : -9223372036854775808 ≤ many ∧ many ≤ 9223372036854775807 := by
    simp [Lit.wf, IntKind.min, IntKind.max, IntKind.signed, IntKind.bits] at wm
    omega
  by_cases h : decide (t.s.route.length ≤ 600) = false ∨ 2000 < n
  · exact msgsReads_out t htw hm A n c many w h
  · exact msgsReads_main t htw hm (by cases h2 : decide (t.s.route.length ≤ 600); exact absurd (.inl h2) h; rfl) A n c l many w hi.len (by omega) hi.cap (by have := hi.most; unfold maxLen at this; omega) hi.rd h5
end Go.Proofs.YtcajhdmppfiaeaaGreat
