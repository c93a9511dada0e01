/- Joined texts: Rv1. -/
import Derived.WalkKit
import Derived.WalkSpells
import Derived.Deep.MidRow
import Derived.Deep.WholeRow
import Derived.Deep.Draws
import Derived.Maps.AppendAt
import Derived.Lib.Hide
import Derived.OwnWalk
import Derived.Laws.IdiomStrings
import Derived.Lib.SlBytesConst
import Derived.Orders
import Derived.Shelf.Abstract
import Derived.OrdersIn
import Derived.RangeFuncCalls
import Derived.RangeFuncNested
import Derived.RangeFuncBound
import Derived.RangeFuncLeaves
import Derived.Shelf.RegionOpen
import Derived.OwnWalkIn
import Derived.TacticsInMore
import Derived.LoopNIn
import Derived.LoopIn
import Derived.WalkMore
import Derived.Test.YtloiaaolnfimgaaGreatRows
import Derived.ProofKit
import Derived.OpenShut
import Derived.Deep.Slices
import Derived.Deep.Matrix
import Derived.WalkLawsBesides
import Derived.BigRegion
import Derived.BigQuiet
import Derived.Lib.AppendZeros
import Derived.Laws.BitsAllLaws
import Derived.IntWalk
import Derived.Laws.CopyOwn
import Derived.Outline
import Derived.Deep.RegionWith
import Derived.Deep.RegionHeld3
import Derived.Laws.EntriesVeiled
import Derived.Deep.DeepCutAuto
import Derived.StillTailTactics
import Derived.Deep.QuietTactic
import Derived.Stop.BytesEq
import Derived.ShutString
import Derived.ChangeOld
import Derived.Lib.ConvBytes
import Derived.Recover
import Derived.Defers
import Derived.Deep.Cut
import Derived.Maps.OwnOps
import Derived.Lib.QuoteBits
import Derived.Lib.AppendStr
import Derived.Deep.Grids
import Derived.Lib.LaidTab
import Derived.ScopeJumps
import Derived.Deep.SlicePairs
import Derived.Lib.SmallJoins
import Derived.Test.YtloiaaolnfimgaaGreatShelf
import Derived.Stop.Joined
import Derived.Laws.StructEq
import Derived.ChangeKeysEq
import Derived.Lib.BufferWrite
set_option linter.unusedVariables false
set_option linter.unusedSimpArgs false
set_option maxRecDepth 100000
set_option maxHeartbeats 32000000
namespace Go.Proofs.YtloiaaolnfimgaaGreat
open Go.RowKit
def Row (w : World) (g : Nat) (t : TypeId) (cs : Array Value) : Prop := w.heap[g]? = some (.cells cs t (0, 0))
section
variable {w w' : World} {g : Nat} {t : TypeId} {cs : Array Value}
theorem Row.lt (h : Row w g t cs) : g < w.heap.size := (Array.getElem?_eq_some_iff.1 h).1
theorem Row.cell (h : Row w g t cs) (i : Nat) : w.cell? ⟨g, i, none⟩ = cs[i]? := cell_of_row w g i cs t (0, 0) h
theorem Row.frozen (h : Row w g t cs) (i : Nat) : w.frozen? ⟨g, i, none⟩ = false := frozen_of_row w g i cs t h
theorem Row.new (w : World) (t : TypeId) (cs : Array Value) : Row (w.alloc (.cells cs t)) w.heap.size t cs := heap_alloc_new w _
theorem Row.alloc (h : Row w g t cs) (o : Obj) : Row (w.alloc o) g t cs := (Below.heap_alloc w o g h.lt).trans h
theorem Row.drewN (h : Row w g t cs) (n : Nat) : Row (w.drewN n) g t cs := h
theorem Row.drew (h : Row w g t cs) : Row w.drew g t cs := h
theorem Row.set (h : Row w g t cs) (i : Nat) (u : Value) : Row (w.setCell ⟨g, i, none⟩ u) g t (cs.setIfInBounds i u) := heap_setCell_same w g i cs t u h
theorem Row.far (h : Row w g t cs) {p : Addr} (hp : g ≠ p.block) (u : Value) : Row (w.setCell p u) g t cs := (heap_setCell_other w p g u hp).trans h
theorem Row.below {B : Nat} (h : Row w g t cs) (hb : Below B w w') (hg : g < B) : Row w' g t cs := (hb.block g hg).trans h
theorem Row.belowAll (h : Row w g t cs) (hb : Below w.heap.size w w') : Row w' g t cs := h.below hb h.lt
theorem Row.grown {row : Option Nat} (h : Row w g t cs) (hb : w.grownBy w' row) (hg : some g ≠ row) : Row w' g t cs := (hb.block g h.lt hg).trans h
end
theorem grown_refl (w : World) (row : Option Nat) : w.grownBy w row := ⟨rfl, rfl, rfl, Nat.le_refl _, fun _ _ _ => rfl⟩
theorem grown_trans {a b c : World} {row : Option Nat} (h : a.grownBy b row) (k : b.grownBy c row) : a.grownBy c row :=
 ⟨k.os.trans h.os, k.tape.trans h.tape, k.output.trans h.output, Nat.le_trans h.size k.size, fun i hi hn => (k.block i (Nat.lt_of_lt_of_le hi h.size) hn).trans (h.block i hi hn)⟩
theorem grown_set (w : World) (g i : Nat) (u : Value) : w.grownBy (w.setCell ⟨g, i, none⟩ u) (some g) :=
 ⟨rfl, rfl, rfl, by simp [World.setCell], fun k _ hn => heap_setCell_other w _ k u (fun e => hn (by rw [e]))⟩
theorem grown_drew {a b : World} {row : Option Nat} (h : a.grownBy b row) : a.grownBy b.drew row := ⟨h.os, h.tape, h.output, h.size, h.block⟩
theorem below_of_grown {w w' : World} {g B : Nat} (h : w.grownBy w' (some g)) (hB : B <= g) (hs : B <= w.heap.size) : Below B w w' :=
 ⟨h.os, h.tape, h.output, h.size, fun k hk => h.block k (by omega) (fun e => by injection e; omega)⟩
abbrev byteV (c : UInt8) : Value := .int .u8 (c.toNat : Int)
def Rd (w : World) (A : Option Addr) (l : List UInt8) : Prop :=
 l ≠ [] -> ∃ b o, A = some ⟨b, o, none⟩ /\ ∀ i (h : i < l.length), w.cell? ⟨b, o + i, none⟩ = some (byteV l[i])
section
variable {w w' : World} {A : Option Addr} {l : List UInt8}
theorem Rd.nil (w : World) (A : Option Addr) : Rd w A [] := fun h => absurd rfl h
theorem Rd.keep (h : Rd w A l) (hk : ∀ b, (∃ o v, w.cell? ⟨b, o, none⟩ = some v) -> w'.heap[b]? = w.heap[b]?) : Rd w' A l := fun hl => by
 obtain ⟨b, o, e, hc⟩ := h hl
 refine ⟨b, o, e, fun i hi => ?_⟩
 rw [World.cell?_of_block (w := w) (hk b ⟨o + i, _, hc i hi⟩)]
 exact hc i hi
theorem Rd.below (h : Rd w A l) (hb : Below w.heap.size w w') : Rd w' A l := h.keep fun b ⟨_, _, hc⟩ => hb.block b (block_lt_of_cell hc)
theorem Rd.alloc (h : Rd w A l) (o : Obj) : Rd (w.alloc o) A l := h.keep fun b ⟨_, _, hc⟩ => Below.heap_alloc w o b (block_lt_of_cell hc)
theorem Rd.at_ (h : Rd w A l) {k : Nat} (hk : k < l.length) : ∃ b o, A = some ⟨b, o, none⟩ /\ w.cell? ⟨b, o + k, none⟩ = some (byteV l[k]) := by
 obtain ⟨b, o, e, hc⟩ := h (by intro e; subst e; simp at hk)
 exact ⟨b, o, e, hc k hk⟩
end
def Rds (w : World) (A : Option Addr) (ls : List (List UInt8)) : Prop :=
 ls ≠ [] -> ∃ b o, A = some ⟨b, o, none⟩ /\ ∀ i (h : i < ls.length), ∃ Ai ci, w.cell? ⟨b, o + i, none⟩ = some (.slice Ai ls[i].length ci) /\ Rd w Ai ls[i]
section
variable {w w' : World} {A : Option Addr} {ls : List (List UInt8)}
theorem Rds.keep (h : Rds w A ls) (hk : ∀ b, (∃ o v, w.cell? ⟨b, o, none⟩ = some v) -> w'.heap[b]? = w.heap[b]?) : Rds w' A ls := fun hl => by
 obtain ⟨b, o, e, hc⟩ := h hl
 refine ⟨b, o, e, fun i hi => ?_⟩
 obtain ⟨Ai, ci, h1, h2⟩ := hc i hi
 refine ⟨Ai, ci, ?_, h2.keep hk⟩
 rw [World.cell?_of_block (w := w) (hk b ⟨o + i, _, h1⟩)]
 exact h1
theorem Rds.below (h : Rds w A ls) (hb : Below w.heap.size w w') : Rds w' A ls := h.keep fun b ⟨_, _, hc⟩ => hb.block b (block_lt_of_cell hc)
theorem Rds.at_ (h : Rds w A ls) {k : Nat} (hk : k < ls.length) : ∃ b o Ai ci, A = some ⟨b, o, none⟩ /\ w.cell? ⟨b, o + k, none⟩ = some (.slice Ai ls[k].length ci) /\ Rd w Ai ls[k] := by
 obtain ⟨b, o, e, hc⟩ := h (by intro e; subst e; simp at hk)
 obtain ⟨Ai, ci, h1, h2⟩ := hc k hk
 exact ⟨b, o, Ai, ci, e, h1, h2⟩
theorem Rd.lt {A : Option Addr} {l : List UInt8} (h : Rd w A l) {b o : Nat} (e : A = some ⟨b, o, none⟩) (hl : l ≠ []) : b < w.heap.size := by
 obtain ⟨b', o', e', hc⟩ := h hl
 rw [e] at e'
 injection e' with e'
 injection e' with e1 e2
 have hlen : 0 < l.length := List.length_pos_iff.2 hl
 rw [e1]
 exact block_lt_of_cell (hc 0 hlen)
end
section
variable {P : Program} {ops : Array Oper} {rest : List Oper} {o : Oper} {a : Act} {w : World} {Q : Exit -> Act -> World -> Prop}
theorem wpList_alloc (hgd : o.guard = none) (T : TypeId) (ho : o.op = .alloc T) {v : Value} {w' : World} (hr : (Instr.alloc T true (.tuple #[])).run P w = .ok v w')
  (h : wpList P ops Q rest (a.put o.dst v) w') : wpList P ops Q (o :: rest) a w :=
 wpList_plain hgd fun _ hK => by
  unfold Oper.wp execOp
  simp only [ho, Sem.run_bind, Sem.run_pure, Result.andThen_ok, hr]
  exact hK _ _ h
theorem wpList_build1 (hgd : o.guard = none) (T : TypeId) (i : Nat) (x : Operand) (ho : o.op = .build T #[(i, x)]) (vx : Value) (hx : a.eval x = vx)
  {v : Value} {w' : World} (hr : (Instr.build T #[(i, vx)]).run P w = .ok v w')
  (h : wpList P ops Q rest (a.put o.dst v) w') : wpList P ops Q (o :: rest) a w :=
 wpList_plain hgd fun _ hK => by
  unfold Oper.wp execOp
  simp only [ho, Sem.run_bind, Sem.run_pure, Result.andThen_ok, List.map_toArray, List.map_cons, List.map_nil, hx, hr]
  exact hK _ _ h
theorem wpList_build2 (hgd : o.guard = none) (T : TypeId) (i j : Nat) (x y : Operand) (ho : o.op = .build T #[(i, x), (j, y)]) (vx vy : Value) (hx : a.eval x = vx) (hy : a.eval y = vy)
  {v : Value} {w' : World} (hr : (Instr.build T #[(i, vx), (j, vy)]).run P w = .ok v w')
  (h : wpList P ops Q rest (a.put o.dst v) w') : wpList P ops Q (o :: rest) a w :=
 wpList_plain hgd fun _ hK => by
  unfold Oper.wp execOp
  simp only [ho, Sem.run_bind, Sem.run_pure, Result.andThen_ok, List.map_toArray, List.map_cons, List.map_nil, hx, hy, hr]
  exact hK _ _ h
theorem wpList_binop (hgd : o.guard = none) (b : BinOp) (T U : TypeId) (x y : Operand) (ho : o.op = .binOp b T x y U) (vx vy : Value) (hx : a.eval x = vx) (hy : a.eval y = vy)
  (he : (eqGuard b T x y vx vy).run P w = .ok () w) {v : Value} (hr : (binOp b T vx vy).run P w = .ok v w)
  (h : wpList P ops Q rest (a.put o.dst v) w) : wpList P ops Q (o :: rest) a w :=
 wpList_plain hgd fun _ hK => by
  unfold Oper.wp execOp
  simp only [ho, Sem.run_bind, Sem.run_pure, Result.andThen_ok, hx, hy, he, hr]
  exact hK _ _ h
theorem wpList_load (hgd : o.guard = none) (T : TypeId) (x : Operand) (ho : o.op = .load T x) (vx : Value) (hx : a.eval x = vx) {v : Value} {w' : World} (hr : (Instr.loadAt T vx).run P w = .ok v w')
  (h : wpList P ops Q rest (a.put o.dst v) w') : wpList P ops Q (o :: rest) a w :=
 wpList_plain hgd fun _ hK => by
  unfold Oper.wp execOp
  simp only [ho, Sem.run_bind, Sem.run_pure, Result.andThen_ok, hx, hr]
  exact hK _ _ h
theorem wpList_store (hgd : o.guard = none) (T : TypeId) (x y : Operand) (ho : o.op = .store T x y) (vx vy : Value) (hx : a.eval x = vx) (hy : a.eval y = vy) {w' : World} (hr : (Instr.storeAt T vx vy).run P w = .ok () w')
  (h : wpList P ops Q rest (a.put o.dst undef) w') : wpList P ops Q (o :: rest) a w :=
 wpList_plain hgd fun _ hK => by
  unfold Oper.wp execOp
  simp only [ho, Sem.run_bind, Sem.run_pure, Result.andThen_ok, hx, hy, hr]
  exact hK _ _ h
end
def setFrom : Array Value -> Nat -> List Value -> Array Value
 | cs, _, [] => cs
 | cs, o, v :: vs => setFrom (cs.setIfInBounds o v) (o + 1) vs
theorem setFrom_get (vs : List Value) : ∀ (o : Nat) (cs : Array Value) (i : Nat), o + vs.length <= cs.size ->
  (setFrom cs o vs)[i]? = if o <= i /\ i < o + vs.length then vs[i - o]? else cs[i]? := by
 induction vs with
 | nil => intro o cs i _; rw [if_neg (by simp)]; rfl
 | cons v vs ih =>
  intro o cs i hl
  simp only [List.length_cons] at hl
  rw [setFrom, ih (o + 1) _ i (by simp; omega)]
  simp only [List.length_cons]
  by_cases h1 : o + 1 <= i /\ i < o + 1 + vs.length
  ·rw [if_pos h1, if_pos (by omega), show i - o = (i - (o + 1)) + 1 by omega, List.getElem?_cons_succ]
  ·rw [if_neg h1, Array.getElem?_setIfInBounds]
   by_cases h2 : o = i
   ·subst h2; rw [if_pos rfl, if_pos (by omega), if_pos (by omega)]; simp
   ·rw [if_neg h2, if_neg (by omega)]
theorem setFrom_whole (vs : List Value) (cs : Array Value) (h : vs.length = cs.size) : setFrom cs 0 vs = vs.toArray := by
 apply Array.ext_getElem?
 intro i
 rw [setFrom_get vs 0 cs i (by omega)]
 by_cases h1 : i < vs.length
 ·rw [if_pos (by omega)]; simp
 ·rw [if_neg (by omega)]
  rw [Array.getElem?_eq_none (by omega), Array.getElem?_eq_none (by simp; omega)]
theorem row_setCells {t : TypeId} {g : Nat} (vs : List Value) : ∀ (o : Nat) (w : World) (cs : Array Value), Row w g t cs -> Row (w.setCells g o vs) g t (setFrom cs o vs) := by
 induction vs with
 | nil => intro o w cs h; exact h
 | cons v vs ih => intro o w cs h; exact ih (o + 1) _ _ (h.set o v)
theorem grown_setCells {g : Nat} (vs : List Value) : ∀ (o : Nat) (w : World), w.grownBy (w.setCells g o vs) (some g) := by
 induction vs with
 | nil => intro o w; exact grown_refl w _
 | cons v vs ih => intro o w; exact grown_trans (grown_set w g o v) (ih (o + 1) _)
theorem Row.there {w : World} {g : Nat} {t : TypeId} {cs : Array Value} (h : Row w g t cs) (o n : Nat) (hn : o + n <= cs.size) : w.there g o n := fun j hj => by
 refine ⟨?_, h.frozen _⟩
 rw [h.cell, Array.getElem?_eq_getElem (by omega)]; rfl
theorem Row.range {w : World} {g : Nat} {t : TypeId} {cs : Array Value} (h : Row w g t cs) (o : Nat) (vs : List Value) (hv : ∀ j v, vs[j]? = some v -> cs[o + j]? = some v) : w.rangeAt g o vs := fun j v e => by
 rw [h.cell]; exact hv j v e
theorem run_store_row {P : Program} {w : World} {g o : Nat} {t T : TypeId} {cs : Array Value} (h : Row w g t cs) (vs : Array Value) (hi : (P.info? T).map (·.size) = some vs.size) (hn : o + vs.size <= cs.size)
  (h1 : vs.all (·.oneCell') = true) : (Instr.storeAt T (.pointer (some ⟨g, o, none⟩)) (.agg vs)).run P w = .ok () (w.setCells g o vs.toList) :=
 run_storeAt_mid w g o T vs (h.there o _ hn) hi h1
def Drawn (w w' : World) : Prop := ∃ q, w' = w.drewN q
theorem Drawn.refl (w : World) : Drawn w w := ⟨0, rfl⟩
theorem Drawn.drewN {w w' : World} (h : Drawn w w') (n : Nat) : Drawn w (w'.drewN n) := by
 obtain ⟨q, rfl⟩ := h; exact ⟨q + n, by simp [World.drewN, Nat.add_assoc]⟩
theorem Drawn.cell {w w' : World} (h : Drawn w w') (p : Addr) : w'.cell? p = w.cell? p := by
 obtain ⟨q, rfl⟩ := h; rfl
theorem Drawn.below {w w' : World} (h : Drawn w w') (B : Nat) : Below B w w' := by
 obtain ⟨q, rfl⟩ := h; exact ⟨rfl, rfl, rfl, Nat.le_refl _, fun _ _ => rfl⟩
def Own (U : TypeId) (w : World) (base : Nat) (v : Value) (l : List UInt8) : Prop := w.ownsRow base U 1 v l.length (l.map byteV)
section
variable {U : TypeId} {w w' : World} {base : Nat} {v : Value} {l : List UInt8}
theorem Own.nil (U : TypeId) (w : World) (base : Nat) : Own U w base (.slice none 0 0) [] := ⟨rfl, .inl ⟨rfl, rfl⟩⟩
theorem Own.alloc (h : Own U w base v l) (o : Obj) : Own U (w.alloc o) base v l := World.ownsRow.alloc h o
theorem Own.slice (h : Own U w base v l) : ∃ A c, v = .slice A l.length c /\ l.length <= c /\ c <= maxLen /\ Rd w A l := by
 obtain ⟨h1, h2⟩ := h
 rcases h2 with ⟨rfl, hn⟩ | ⟨g, cap, cur, rfl, hb, hh, hn, hc, hs, ht⟩
 ·have : l = [] := List.eq_nil_of_length_eq_zero hn
  subst this
  exact ⟨none, 0, rfl, Nat.le_refl _, Nat.zero_le _, Rd.nil _ _⟩
 ·refine ⟨_, cap, rfl, hn, hc, fun _ => ⟨g, 0, rfl, fun i hi => ?_⟩⟩
  have e := cell_of_row w g (0 + i) cur U (0, 0) hh
  rw [e, Nat.zero_add]
  have h3 : (cur.toList.take (l.length * 1))[i]? = (l.map byteV)[i]? := by rw [ht]
  rw [List.getElem?_take_of_lt (by omega), Array.getElem?_toList] at h3
  rw [h3, List.getElem?_map, List.getElem?_eq_getElem hi]; rfl
theorem Own.keep (h : Own U w base v l) (hk : ∀ b, b < w.heap.size -> v.ownBlock = some b -> w'.heap[b]? = w.heap[b]?) : Own U w' base v l := by
 obtain ⟨h1, h2⟩ := h
 refine ⟨h1, ?_⟩
 rcases h2 with ⟨rfl, hn⟩ | ⟨g, cap, cur, rfl, hb, hh, hr⟩
 ·exact .inl ⟨rfl, hn⟩
 ·exact .inr ⟨g, cap, cur, rfl, hb, by rw [hk g (Array.getElem?_eq_some_iff.1 hh).1 rfl]; exact hh, hr⟩
theorem Own.below (h : Own U w base v l) (hb : Below w.heap.size w w') : Own U w' base v l := h.keep fun b hb' _ => hb.block b hb'
theorem Own.mono (h : Own U w base v l) {b' : Nat} (hb : b' <= base) : Own U w b' v l := by
 obtain ⟨h1, h2⟩ := h
 refine ⟨h1, ?_⟩
 rcases h2 with ⟨rfl, hn⟩ | ⟨g, cap, cur, rfl, hb2, hr⟩
 ·exact .inl ⟨rfl, hn⟩
 ·exact .inr ⟨g, cap, cur, rfl, by omega, hr⟩
theorem Own.at_ (h : Own U w base v l) : ∀ k, v.ownBlock = some k -> base <= k /\ k < w.heap.size := World.ownsRow.lt h
end
theorem Rd.grown {w w' : World} {A : Option Addr} {l : List UInt8} {row : Option Nat} (h : Rd w A l) (hg : w.grownBy w' row) (hn : ∀ b o, A = some ⟨b, o, none⟩ -> l ≠ [] -> some b ≠ row) : Rd w' A l := fun hl => by
 obtain ⟨b, o, e, hc⟩ := h hl
 refine ⟨b, o, e, fun i hi => ?_⟩
 have hb := block_lt_of_cell (hc i hi)
 rw [World.cell?_of_block (w := w) (hg.block b hb (hn b o e hl))]
 exact hc i hi
theorem Rd.lit (w : World) (t : TypeId) (l : List UInt8) : Rd (w.alloc (.cells (l.map byteV).toArray t)) (some ⟨w.heap.size, 0, none⟩) l := fun _ =>
 ⟨_, _, rfl, fun i hi => by
  rw [(Row.new w t _).cell]
  simp [hi]⟩
theorem Rds.one {w : World} {A : Option Addr} {n c : Nat} {l : List UInt8} (t : TypeId) (h : Rd w A l) (hn : l.length = n) : Rds (w.alloc (.cells #[.slice A n c] t)) (some ⟨w.heap.size, 0, none⟩) [l] := fun _ =>
 ⟨_, _, rfl, fun i hi => by
  have e : i = 0 := by simpa using hi
  subst e
  subst hn
  exact ⟨A, c, ((Row.new w t _).cell 0).trans rfl, h.alloc _⟩⟩
theorem below_new (w : World) (o : Obj) : Below w.heap.size w (w.alloc o) := (Below.refl _ _).alloc (Nat.le_refl _) o
theorem below_new2 (w : World) (o o2 : Obj) : Below w.heap.size w ((w.alloc o).alloc o2) := (below_new w o).alloc (by simp) o2
section
variable {P : Program}
theorem run_append_nil_src (w : World) (base : Nat) (t ty U : TypeId) (i : TypeInfo) (ht : P.underlying t = some (.slice U)) (hi : P.info? U = some i) (v : Value) (l : List UInt8) (hown : Own U w base v l) (c : Nat) :
  (Builtin.append_ #[t, t] ty #[v, .slice none 0 c]).run P w = .ok v w := by
 rcases hown.2 with ⟨rfl, hn⟩ | ⟨g, cap, cur, rfl, _, _, hnc, _⟩
 ·simp [Builtin.append_, run_underlying ht, sizeOf, typeInfo, hi, Builtin.lenOf, Builtin.firstCells]
 ·simp [Builtin.append_, run_underlying ht, sizeOf, typeInfo, hi, Builtin.lenOf, Builtin.firstCells, hnc, storeCells]
def ByteInfo (P : Program) (U : TypeId) : Prop := (P.info? U).map (fun i => (i.zero, i.size, i.bytes)) = some (some (.int .u8 0), 1, 1)
theorem run_append_bytes (w : World) (base : Nat) (t ty U : TypeId) (ht : P.underlying t = some (.slice U)) (hi : ByteInfo P U) (v : Value) (l : List UInt8) (hown : Own U w base v l)
  (A : Option Addr) (m c : Nat) (k : List UInt8) (hm : k.length = m) (hr : Rd w A k) (hlen : l.length + m <= 140737488355328) (hbase : base <= w.heap.size) :
  ∃ v' w', (Builtin.append_ #[t, t] ty #[v, .slice A m c]).run P w = .ok v' w' /\ Own U w' base v' (l ++ k) /\ w.grownBy w' v.ownBlock /\ (v'.ownBlock = v.ownBlock \/ v'.ownBlock = some w.heap.size) := by
 obtain ⟨i, hi0, hz, hs, hb⟩ := info_parts hi
 subst hm
 rcases A with _ | ad
 ·have hk : k = [] := by
   rcases k with _ | ⟨x, k⟩
   ·rfl
   ·obtain ⟨b, o, e, _⟩ := hr (by simp)
    cases e
  subst hk
  exact ⟨v, w, run_append_nil_src w base t ty U i ht hi0 v l hown c, by simpa using hown, ⟨rfl, rfl, rfl, Nat.le_refl _, fun _ _ _ => rfl⟩, .inl rfl⟩
 ·obtain ⟨v', w', h1, h2, h3, _, h5⟩ := run_append_own_at (P := P) w base t ty U i _ 1 1 ht hi0 hz hs hb rfl (by omega) v l.length (l.map byteV) hown ad k.length c (k.map byteV) (by simp)
   (fun j u hu => by
    rw [List.getElem?_map] at hu
    have hj : j < k.length := by
     rcases Nat.lt_or_ge j k.length with h | h
     ·exact h
     ·rw [List.getElem?_eq_none h] at hu; cases hu
    rw [List.getElem?_eq_getElem hj] at hu
    obtain ⟨b, o, e, hc⟩ := hr (by intro e; subst e; simp at hj)
    injection e with e
    subst e
    rw [Option.map_some] at hu
    rw [<- hu]
    rw [<- hc j hj]
    rcases Nat.eq_zero_or_pos j with rfl | hp
    ·rfl
    ·simp [Addr.add, Nat.ne_of_gt hp])
   (fun u hu => by obtain ⟨x, _, rfl⟩ := List.mem_map.1 hu; rfl) (by unfold maxLen; omega) (by omega) hbase
  exact ⟨v', w', h1, by unfold Own; rw [List.length_append, List.map_append]; exact h2, h3, h5⟩
theorem wpList_append_bytes {w : World} {ops : Array Oper} {rest : List Oper} {o : Oper} {a : Act} {Q : Exit -> Act -> World -> Prop} (hgd : o.guard = none) (s x : Operand) (t : TypeId)
  (ho : o.op = .call { callee := .builtin .append, args := #[s, x], argTypes := #[t, t] }) (base : Nat) (U : TypeId) (ht : P.underlying t = some (.slice U)) (hi : ByteInfo P U)
  (v : Value) (l : List UInt8) (hs : a.eval s = v) (hown : Own U w base v l)
  (A : Option Addr) (m c : Nat) (k : List UInt8) (hx : a.eval x = .slice A m c) (hm : k.length = m) (hr : Rd w A k) (hlen : l.length + m <= 140737488355328) (hbase : base <= w.heap.size)
  (h : ∀ v' w', Own U w' base v' (l ++ k) -> w.grownBy w' v.ownBlock -> (v'.ownBlock = v.ownBlock \/ v'.ownBlock = some w.heap.size) -> wpList P ops Q rest (a.put o.dst v') w') : wpList P ops Q (o :: rest) a w :=
 wpList_plain hgd fun _ hK => by
  obtain ⟨v', w', hr', h2, h3, h4⟩ := run_append_bytes (P := P) w base t o.type U ht hi v l hown A m c k hm hr hlen hbase
  unfold Oper.wp execOp
  simp only [ho, resolve, invoke, builtin, Sem.run_bind, Sem.run_pure, Result.andThen_ok, List.map_toArray, List.map_cons, List.map_nil, hs, hx, hr']
  exact hK _ _ (h v' w' h2 h3 h4)
theorem run_string_rd (w : World) (src dst U : TypeId) (A : Option Addr) (n c : Nat) (l : List UInt8) (hs : P.underlying src = some (.slice U)) (he : P.underlying U = some (.int .u8)) (hd : P.underlying dst = some .string) (hn : l.length = n) (hr : Rd w A l) :
  (convert src dst (.slice A n c)).run P w = .ok (.string ⟨l.toArray⟩) w := by
 subst hn
 rcases A with _ | ad
 ·have hk : l = [] := by
   rcases l with _ | ⟨x, k⟩
   ·rfl
   ·obtain ⟨b, o, e, _⟩ := hr (by simp)
    cases e
  subst hk
  simp [convert, run_underlying hs, run_underlying he, run_underlying hd, Conv.bytesToString]
  rfl
 ·refine run_convert_bytes_back w src dst U ad c l hs he hd fun j hj => ?_
  obtain ⟨b, o, e, hc⟩ := hr (by intro e; subst e; simp at hj)
  injection e with e
  subst e
  rw [show (⟨b, o, none⟩ : Addr).add j = ⟨b, o + j, none⟩ from by
   rcases Nat.eq_zero_or_pos j with rfl | hp
   ·rfl
   ·simp [Addr.add, Nat.ne_of_gt hp]]
  exact hc j hj
end
def Later (w W : World) : Prop := Below w.heap.size w W
section
variable {w W W' : World}
theorem Later.refl (w : World) : Later w w := Below.refl _ _
theorem Later.below (h : Later w W) : Below w.heap.size w W := h
theorem Later.size (h : Later w W) : w.heap.size <= W.heap.size := Below.size h
theorem Later.alloc (h : Later w W) (o : Obj) : Later w (W.alloc o) := Below.alloc h (Below.size h) o
theorem Later.drew (h : Later w W) : Later w W.drew := Below.drew h
theorem Later.call (h : Later w W) (hb : Below W.heap.size W W') : Later w W' := Below.trans h (hb.mono (Below.size h))
theorem Later.step (h : Later w W) (hb : Later W W') : Later w W' := h.call hb
theorem Rd.later {A : Option Addr} {l : List UInt8} (h : Rd w A l) (k : Later w W) : Rd W A l := h.below k
theorem Row.later {g : Nat} {t : TypeId} {cs : Array Value} (h : Row w g t cs) (k : Later w W) : Row W g t cs := h.belowAll k
theorem Own.later {U : TypeId} {base : Nat} {v : Value} {l : List UInt8} (h : Own U w base v l) (k : Later w W) : Own U W base v l := Own.below h k
theorem Later.cell (k : Later w W) {p : Addr} {v : Value} (h : w.cell? p = some v) : W.cell? p = some v := (Below.cell k (block_lt_of_cell h)).trans h
end
theorem grown_of_below {X Y : World} (h : Below X.heap.size X Y) : X.grownBy Y none := ⟨h.os, h.tape, h.output, h.size, fun k hk _ => h.block k hk⟩
theorem Own.setAt {U : TypeId} {w : World} {base g n c : Nat} {l : List UInt8} (h : Own U w base (.slice (some ⟨g, 0, none⟩) n c) l) (i : Nat) (x : UInt8) (hi : i < l.length) :
  Own U (w.setCell ⟨g, i, none⟩ (byteV x)) base (.slice (some ⟨g, 0, none⟩) n c) (l.set i x) := by
 obtain ⟨h1, h2⟩ := h
 rcases h2 with ⟨e, _⟩ | ⟨g', cap, cur, e, hb, hh, hn, hc, hs, ht⟩
 ·cases e
 ·injection e with e1 e2 e3
  injection e1 with e1
  injection e1 with e1
  subst e1 e2 e3
  refine ⟨by rw [List.length_map, List.length_set, Nat.mul_one], .inr ⟨g, c, cur.setIfInBounds i (byteV x), by rw [List.length_set], hb, heap_setCell_same w g i cur U _ hh, by rw [List.length_set]; exact hn, hc, by simpa using hs, ?_⟩⟩
  rw [List.length_set, Array.toList_setIfInBounds, List.take_set, ht, List.map_set]
theorem Own.cellAt {U : TypeId} {w : World} {base g n c : Nat} {l : List UInt8} (h : Own U w base (.slice (some ⟨g, 0, none⟩) n c) l) (i : Nat) (hi : i < l.length) : w.cell? ⟨g, i, none⟩ = some (.int .u8 (l[i].toNat : Int)) /\ w.frozen? ⟨g, i, none⟩ = false := by
 obtain ⟨A, c', e, _, _, hr⟩ := h.slice
 injection e with e1 _ _
 subst e1
 obtain ⟨b, o, e, hc⟩ := hr.at_ hi
 injection e with e
 injection e with e1 e2
 subst e1 e2
 rw [Nat.zero_add] at hc
 refine ⟨hc, ?_⟩
 rcases h.2 with ⟨e, _⟩ | ⟨g', cap, cur, e, hb, hh, _⟩
 ·cases e
 ·injection e with e1 _ _
  injection e1 with e1
  injection e1 with e1
  subst e1
  exact frozen_of_row w g i cur U hh
theorem Own.formN {U : TypeId} {w : World} {base n : Nat} {v : Value} {l : List UInt8} (h : Own U w base v l) (hn : l.length = n) (hne : 0 < n) :
  ∃ g c, v = .slice (some ⟨g, 0, none⟩) n c /\ Own U w base (.slice (some ⟨g, 0, none⟩) n c) l /\ base <= g /\ g < w.heap.size /\ n <= c /\ c <= maxLen := by
 subst hn
 obtain ⟨A, c, e, h1, h2, hr⟩ := h.slice
 have h' := h
 rcases h.2 with ⟨rfl, hn⟩ | ⟨g, cap, cur, rfl, hb, _⟩
 ·omega
 ·injection e with e1 e2 e3
  subst e3
  exact ⟨g, cap, rfl, h', hb, (h'.at_ g rfl).2, h1, h2⟩
theorem run_slice_from {P : Program} {t U : TypeId} {A : Option Addr} {n ca k : Nat} (ht : P.underlying t = some (.slice U)) (hi : ByteInfo P U) (h1 : k <= n) (h2 : n <= ca) :
  ∃ D, (∀ w : World, (Instr.slice t (.slice A n ca) (some (.int .i64 (k : Int))) none none).run P w = .ok (.slice D (n - k) (ca - k)) w) /\ ∀ (W : World) (l : List UInt8), l.length = n -> Rd W A l -> Rd W D (l.drop k) := by
 obtain ⟨i, hi0, hz, hs, hb⟩ := info_parts hi
 have he : P.elem t = U := by simp [Program.elem, ht]
 have ht' : P.underlying t = some (.slice (P.elem t)) := by rw [he]; exact ht
 refine ⟨if ca = k then A else A.map (·.add (k * 1)), fun w => ?_, fun W l hl hr => ?_⟩
 ·rw [run_slice_l w t A n ca ht' .i64 (k : Int) (by omega) (by omega), he]
  simp [sizeOf, typeInfo, hi0, hs, sliced]
 ·by_cases h : ca = k
  ·have : l.drop k = [] := List.drop_eq_nil_of_le (by omega)
   rw [this]
   exact Rd.nil _ _
  ·rw [if_neg h, Nat.mul_one]
   intro hne
   obtain ⟨b, o, e, hc⟩ := hr (by intro e; subst e; simp at hne)
   subst e
   refine ⟨b, o + k, by unfold Addr.add; simp, fun i hi' => ?_⟩
   rw [List.getElem_drop, Nat.add_assoc]
   exact hc (k + i) (by rw [List.length_drop] at hi'; omega)
section
variable {P : Program} {ops : Array Oper} {Q : Exit -> Act -> World -> Prop}
def waits (ops : Array Oper) (i j : Nat) : Bool := match ops[i]? with
 | some o => o.after.any fun e => Region.binds .any e && e.on == j
 | none => false
def dstOf (ops : Array Oper) (i : Nat) : Option Tmp := match ops[i]? with
 | some o => o.dst
 | none => none
def dstsB (ops : Array Oper) : Bool := (List.range ops.size).all fun i => (List.range ops.size).all fun j => i == j || (match dstOf ops i with
 | some d => !(dstOf ops j == some d)
 | none => true)
def backB (ops : Array Oper) : Bool := (List.range ops.size).all fun i => match ops[i]? with
 | some o => o.after.all fun e => !Region.binds .any e || decide (e.on < i)
 | none => true
def dstIn (ops : Array Oper) (n : Nat) : Bool := (List.range ops.size).all fun i => match dstOf ops i with
 | some d => decide (d < n)
 | none => true
theorem dsts_ne (h : dstsB ops = true) {i j : Nat} (hi : i < ops.size) (hj : j < ops.size) (hne : i ≠ j) {d : Tmp} (hd : dstOf ops i = some d) : dstOf ops j ≠ some d := by
 unfold dstsB at h
 rw [List.all_eq_true] at h
 have h1 := h i (List.mem_range.2 hi)
 rw [List.all_eq_true] at h1
 have h2 := h1 j (List.mem_range.2 hj)
 rw [hd] at h2
 intro e
 rw [e] at h2
 simp [hne] at h2
def laid (ops : Array Oper) (a0 : Act) (listed : Array Bool) (xs : Nat -> Value) : Nat -> Act
 | 0 => a0
 | k + 1 => if listed.getD k false then (laid ops a0 listed xs k).put (dstOf ops k) (xs k) else laid ops a0 listed xs k
theorem laid_congr {a0 : Act} {l l' : Array Bool} {xs ys : Nat -> Value} : ∀ (k : Nat), (∀ j, j < k -> l.getD j false = l'.getD j false /\ xs j = ys j) -> laid ops a0 l xs k = laid ops a0 l' ys k
 | 0, _ => rfl
 | k + 1, h => by rw [laid, laid, laid_congr k (fun j hj => h j (by omega)), (h k (by omega)).1, (h k (by omega)).2]
theorem laid_put (hd : dstsB ops = true) {a0 : Act} {l : Array Bool} {xs : Nat -> Value} {i : Nat} (v : Value) (hi : i < l.size) (hf : l.getD i false = false) : ∀ (k : Nat), k <= ops.size -> i < k ->
  (laid ops a0 l xs k).put (dstOf ops i) v = laid ops a0 (l.setIfInBounds i true) (fun j => if j = i then v else xs j) k
 | 0, _, h => absurd h (by omega)
 | k + 1, hk, h => by
  have hset : ∀ j, j ≠ i -> (l.setIfInBounds i true).getD j false = l.getD j false := fun j hj => getD_set_ne false (fun e => hj e.symm)
  have hself : (l.setIfInBounds i true).getD i false = true := by simp [Array.getD, hi]
  by_cases e : i = k
  ·subst e
   rw [laid, laid, hf, hself, if_neg (by simp), if_pos rfl, if_pos rfl]
   congr 1
   exact laid_congr i (fun j hj => ⟨(hset j (by omega)).symm, by rw [if_neg (by omega)]⟩)
  ·have ih := laid_put hd (a0 := a0) (xs := xs) v hi hf k (by omega) (by omega)
   have hki : k ≠ i := fun e' => e e'.symm
   rw [laid, laid, hset k hki]
   cases hl : l.getD k false
   ·simp only [Bool.false_eq_true, if_false]
    exact ih
   ·simp only [if_true, if_neg hki]
    rw [Act.put_comm, ih]
    intro d hk'
    exact dsts_ne hd (i := k) (j := i) (by omega) (by omega) hki hk'
theorem laid_keep {a0 : Act} {l : Array Bool} {xs : Nat -> Value} (x : Operand) : ∀ (k : Nat), (∀ j d, j < k -> dstOf ops j = some d -> l.getD j false = true -> x ≠ .tmp d) -> (laid ops a0 l xs k).eval x = a0.eval x
 | 0, _ => rfl
 | k + 1, h => by
  rw [laid]
  have ih := laid_keep (a0 := a0) (l := l) (xs := xs) x k (fun j d hj => h j d (by omega))
  split
  ·rename_i hl
   rw [Act.eval_put (fun d hd => h k d (by omega) hd hl), ih]
  ·exact ih
theorem laid_size {a0 : Act} {l : Array Bool} {xs : Nat -> Value} : ∀ (k : Nat), (laid ops a0 l xs k).tmps.size = a0.tmps.size
 | 0 => rfl
 | k + 1 => by
  rw [laid]
  split
  ·cases dstOf ops k <;> simp [Act.put, laid_size k]
  ·exact laid_size k
theorem laid_get (hd : dstsB ops = true) {a0 : Act} {l : Array Bool} {xs : Nat -> Value} {i : Nat} {t : Tmp} (ht : dstOf ops i = some t) (hl : l.getD i false = true) (hs : t < a0.tmps.size) : ∀ (k : Nat), k <= ops.size -> i < k -> (laid ops a0 l xs k).eval (.tmp t) = xs i
 | 0, _, h => absurd h (by omega)
 | k + 1, hk, h => by
  rw [laid]
  by_cases e : i = k
  ·subst e
   rw [if_pos hl, ht]
   simp [Act.eval, Act.put, laid_size, hs]
  ·have ih := laid_get hd (xs := xs) ht hl hs k (by omega) (by omega)
   split
   ·rw [Act.eval_put, ih]
    intro d hk' e'
    injection e' with e'
    subst e'
    exact dsts_ne hd (i := k) (j := i) (by omega) (by omega) (fun e' => e e'.symm) hk' ht
   ·exact ih
def keepsB (ops : Array Oper) (i : Nat) : Operand -> Bool
 | .tmp t => (List.range ops.size).all fun j => !(dstOf ops j == some t) || j == i || waits ops j i
 | _ => true
structure Env (ops : Array Oper) (a0 : Act) (V : Nat -> Value -> World -> Prop) (i : Nat) (a : Act) (W : World) : Prop where
 keep : ∀ x, keepsB ops i x = true -> a.eval x = a0.eval x
 get : ∀ j t, waits ops i j = true -> dstOf ops j = some t -> V j (a.eval (.tmp t)) W
theorem Env.g {ops : Array Oper} {a0 : Act} {V : Nat -> Value -> World -> Prop} {i : Nat} {a : Act} {W : World} (h : Env ops a0 V i a W) (j t : Nat) (h1 : waits ops i j = true := by kernel_rfl) (h2 : dstOf ops j = some t := by exact rfl) : V j (a.eval (.tmp t)) W := h.get j t h1 h2
theorem Env.k {ops : Array Oper} {a0 : Act} {V : Nat -> Value -> World -> Prop} {i : Nat} {a : Act} {W : World} (h : Env ops a0 V i a W) (t : Nat) (h1 : keepsB ops i (.tmp t) = true := by kernel_rfl) : a.eval (.tmp t) = a0.eval (.tmp t) := h.keep _ h1
def StepOk (P : Program) (ops : Array Oper) (Q : Exit -> Act -> World -> Prop) (o : Oper) (a : Act) (W : World) (R : Value -> World -> Prop) : Prop :=
 if Region.wanted o (yielded ops a.tmps) then o.wp P a W (fun a' W' => ∃ v, a' = a.put o.dst v /\ Later W W' /\ R v W') Q else R undef W
structure Inv (ops : Array Oper) (a0 : Act) (w : World) (V : Nat -> Value -> World -> Prop) (l : Array Bool) (a : Act) (W : World) : Prop where
 size : l.size = ops.size
 closed : ∀ i j, l.getD i false = true -> waits ops i j = true -> l.getD j false = true
 later : Later w W
 act : ∃ xs : Nat -> Value, a = laid ops a0 l xs ops.size /\ ∀ j, j < ops.size -> l.getD j false = true -> V j (xs j) W
theorem ready_nil (hb : backB ops = true) {l : Array Bool} (hs : l.size = ops.size) (h : Region.ready .any ops l = []) : ∀ i, i < ops.size -> l.getD i false = true := by
 intro i
 induction i using Nat.strongRecOn with
 | _ i ih =>
  intro hi
  cases hl : l.getD i false
  ·exfalso
   have : i ∈ Region.ready .any ops l := by
    refine mem_ready.2 ⟨?_, ops[i], Array.getElem?_eq_getElem hi, fun e he hbd => ?_⟩
    ·have hi' : i < l.size := by omega
     simp [Array.getD, hi'] at hl ⊢
     exact hl
    ·unfold backB at hb
     rw [List.all_eq_true] at hb
     have h1 := hb i (List.mem_range.2 hi)
     rw [Array.getElem?_eq_getElem hi] at h1
     simp only at h1
     rw [Array.all_eq_true_iff_forall_mem] at h1
     have h2 := h1 e he
     rw [hbd] at h2
     simp at h2
     exact ih e.on h2 (by omega)
   rw [h] at this
   cases this
  ·rfl
def putL : List Oper -> Nat -> (Nat -> Value) -> Act -> Act
 | [], _, _, a => a
 | o :: os, k, xs, a => putL os (k + 1) xs (a.put o.dst (xs k))
theorem laid_all {a0 : Act} {l : Array Bool} {xs : Nat -> Value} (hl : ∀ i, i < ops.size -> l.getD i false = true) : laid ops a0 l xs ops.size = putL ops.toList 0 xs a0 := by
 have key : ∀ (os : List Oper) (k : Nat), k + os.length = ops.size -> (∀ j, os[j]? = ops[k + j]?) -> putL os k xs (laid ops a0 l xs k) = laid ops a0 l xs ops.size := by
  intro os
  induction os with
  | nil => intro k hk _; rw [show ops.size = k from by simpa using hk.symm]; rfl
  | cons o os ih =>
   intro k hk hos
   rw [putL]
   have h0 : ops[k]? = some o := by have := hos 0; simpa using this.symm
   have hlt : k < ops.size := (Array.getElem?_eq_some_iff.1 h0).1
   have e : (laid ops a0 l xs k).put o.dst (xs k) = laid ops a0 l xs (k + 1) := by
    rw [laid, if_pos (hl k hlt)]
    unfold dstOf
    rw [h0]
   rw [e]
   refine ih (k + 1) (by simp at hk; omega) (fun j => ?_)
   have := hos (j + 1)
   rw [List.getElem?_cons_succ] at this
   rw [this]
   congr 1
   omega
 exact (key ops.toList 0 (by simp) (fun j => by simp)).symm
theorem wpAny_values (hd : dstsB ops = true) (hb : backB ops = true) {a0 : Act} (hin : dstIn ops a0.tmps.size = true) {w : World} (V : Nat -> Value -> World -> Prop) (hV : ∀ j v W W', V j v W -> Later W W' -> V j v W')
  (step : ∀ i o a W, ops[i]? = some o -> Later w W -> Env ops a0 V i a W -> StepOk P ops Q o a W (V i))
  (done : ∀ xs W, Later w W -> (∀ j, j < ops.size -> V j (xs j) W) -> Q .normal (putL ops.toList 0 xs a0) W) :
  ∀ (fuel : Nat) (l : Array Bool) (a : Act) (W : World), l.toList.count false <= fuel -> Inv ops a0 w V l a W -> wpAny P .any ops Q fuel l a W := by
 have fin : ∀ (l : Array Bool) (a : Act) (W : World), Inv ops a0 w V l a W -> (∀ i, i < ops.size -> l.getD i false = true) -> Q .normal a W := fun l a W hI hl => by
  obtain ⟨xs, rfl, hx⟩ := hI.act
  rw [laid_all hl]
  exact done xs W hI.later (fun j hj => hx j hj (hl j hj))
 intro fuel
 induction fuel with
 | zero =>
  intro l a W hc hI
  have hall : ∀ i, i < ops.size -> l.getD i false = true := fun i hi => by
   have hi' : i < l.size := by rw [hI.size]; exact hi
   cases h : l.getD i false
   ·exfalso
    have hm : false ∈ l.toList := by
     have : l[i] = false := by simpa [Array.getD, hi'] using h
     rw [<- this]; exact Array.mem_toList_iff.2 (Array.getElem_mem hi')
    have := List.count_pos_iff.2 hm
    omega
   ·rfl
  refine ⟨?_, fin l a W hI hall⟩
  rw [List.eq_nil_iff_forall_not_mem]
  intro i hi
  obtain ⟨h1, o, ho, _⟩ := mem_ready.1 hi
  have hlt : i < ops.size := (Array.getElem?_eq_some_iff.1 ho).1
  have hi' : i < l.size := by rw [hI.size]; exact hlt
  have := hall i hlt
  simp [Array.getD, hi'] at this h1
  rw [this] at h1; cases h1
 | succ fuel ih =>
  intro l a W hc hI
  refine ⟨fun hr => fin l a W hI (ready_nil hb hI.size hr), fun i hi => ?_⟩
  obtain ⟨h1, o, ho, hdeps⟩ := mem_ready.1 hi
  have hlt : i < ops.size := (Array.getElem?_eq_some_iff.1 ho).1
  have hi' : i < l.size := by rw [hI.size]; exact hlt
  have hf : l.getD i false = false := by simp [Array.getD, hi'] at h1 ⊢; exact h1
  obtain ⟨xs, rfl, hx⟩ := hI.act
  have hdst : dstOf ops i = o.dst := by unfold dstOf; rw [ho]
  have hwl : ∀ j, waits ops i j = true -> l.getD j false = true := fun j hw => by
   unfold waits at hw
   rw [ho] at hw
   obtain ⟨k, hk, h2⟩ := Array.any_eq_true.1 hw
   simp at h2
   rw [<- h2.2]
   exact hdeps _ (Array.getElem_mem hk) h2.1
  have hjlt : ∀ j t, dstOf ops j = some t -> j < ops.size := fun j t h => by
   unfold dstOf at h
   cases hj : ops[j]? with
   | none => rw [hj] at h; cases h
   | some o' => exact (Array.getElem?_eq_some_iff.1 hj).1
  have hts : ∀ j t, dstOf ops j = some t -> t < a0.tmps.size := fun j t h => by
   unfold dstIn at hin
   rw [List.all_eq_true] at hin
   have := hin j (List.mem_range.2 (hjlt j t h))
   rw [h] at this
   simpa using this
  have henv : Env ops a0 V i (laid ops a0 l xs ops.size) W := by
   refine ⟨fun x hk => laid_keep x _ (fun j d hj hjd hl hx' => ?_), fun j t hw ht => ?_⟩
   ·subst hx'
    unfold keepsB at hk
    rw [List.all_eq_true] at hk
    have h3 := hk j (List.mem_range.2 hj)
    rw [hjd] at h3
    simp at h3
    rcases h3 with h3 | h3
    ·subst h3; rw [hf] at hl; cases hl
    ·have := hI.closed j i hl h3
     rw [hf] at this; cases this
   ·rw [laid_get hd ht (hwl j hw) (hts j t ht) _ (Nat.le_refl _) (hjlt j t ht)]
    exact hx j (hjlt j t ht) (hwl j hw)
  have hs := step i o _ W ho hI.later henv
  have next : ∀ v W', Later W W' -> V i v W' -> Inv ops a0 w V (l.setIfInBounds i true) ((laid ops a0 l xs ops.size).put o.dst v) W' := fun v W' hL hv => by
   have hset : ∀ j, j ≠ i -> (l.setIfInBounds i true).getD j false = l.getD j false := fun j hj => getD_set_ne false (fun e => hj e.symm)
   refine ⟨by simpa using hI.size, fun p q hp hw => ?_, hI.later.step hL, (fun j => if j = i then v else xs j), ?_, fun j hj hl => ?_⟩
   ·by_cases e : p = i
    ·subst e
     exact getD_set_true (hwl q hw)
    ·rw [hset p e] at hp
     exact getD_set_true (hI.closed p q hp hw)
   ·rw [<- hdst]
    exact laid_put hd v hi' hf _ (Nat.le_refl _) hlt
   ·show V j (if j = i then v else xs j) W'
    by_cases e : j = i
    ·subst e; rw [if_pos rfl]; exact hv
    ·rw [if_neg e]
     rw [hset j e] at hl
     exact hV j _ W W' (hx j hj hl) hL
  have hcnt : (l.setIfInBounds i true).toList.count false <= fuel := by
   have hil : i < l.toList.length := by simpa using hi'
   have hlv : l.toList[i] = false := by simpa [Array.getD, hi'] using hf
   have := List.count_set (a := true) (b := false) (l := l.toList) (i := i) hil
   rw [Array.toList_setIfInBounds, this, hlv, if_pos (show (false == false) = true from rfl), if_neg (show ¬ (true == false) = true from by decide)]
   have hp : 0 < l.toList.count false := List.count_pos_iff.2 (by rw [<- hlv]; exact List.getElem_mem hil)
   omega
  unfold wpOp
  rw [ho]
  unfold StepOk at hs
  simp only
  split
  ·rename_i hw
   rw [if_pos hw] at hs
   refine .inl (Oper.wp_mono (fun a' W' h => ?_) hs)
   obtain ⟨v, rfl, hL, hv⟩ := h
   exact ih _ _ _ hcnt (next v W' hL hv)
  ·rename_i hw
   rw [if_neg hw] at hs
   exact ih _ _ _ hcnt (next undef W (Later.refl W) hs)
theorem wp_region_values {id : Nat} {a0 : Act} {w : World} (hm : P.follows .mixedOrders = true) (hd : dstsB ops = true) (hb : backB ops = true) (hin : dstIn ops a0.tmps.size = true)
  (V : Nat -> Value -> World -> Prop) (hV : ∀ j v W W', V j v W -> Later W W' -> V j v W')
  (step : ∀ i o a W, ops[i]? = some o -> Later w W -> Env ops a0 V i a W -> StepOk P ops Q o a W (V i))
  (done : ∀ xs W, Later w W -> (∀ j, j < ops.size -> V j (xs j) W) -> Q .normal (putL ops.toList 0 xs a0) W) : (Code.region id ops true).wp P Q a0 w := by
 refine wp_region_any hm (wpAny_values hd hb hin V hV step done _ _ _ _ ?_ ⟨by simp, fun i j hi _ => ?_, (Later.refl w).drew, fun _ => undef, ?_, fun j hj hl => ?_⟩)
 ·simp
 ·exfalso
  simp [Array.getD] at hi
 ·have : ∀ k, laid ops a0 (Array.replicate ops.size false) (fun _ => undef) k = a0 := fun k => by
   induction k with
   | zero => rfl
   | succ k ih => rw [laid, if_neg (by simp [Array.getD]), ih]
  exact (this _).symm
 ·exfalso
  simp [Array.getD] at hl
theorem stepOk_want {o : Oper} {a : Act} {W : World} {R : Value -> World -> Prop} (hg : o.guard = none) (h : o.wp P a W (fun a' W' => ∃ v, a' = a.put o.dst v /\ Later W W' /\ R v W') Q) : StepOk P ops Q o a W R := by
 unfold StepOk
 rw [if_pos (by unfold Region.wanted; rw [hg])]
 exact h
theorem yielded_of {a : Act} {j : Nat} {t : Tmp} {b : Bool} (ht : dstOf ops j = some t) (h : a.eval (.tmp t) = .bool b) : yielded ops a.tmps j = some b := by
 unfold yielded
 unfold dstOf at ht
 cases hj : ops[j]? with
 | none => rw [hj] at ht; cases ht
 | some o =>
  rw [hj] at ht
  simp only at ht
  simp only [Option.bind_some, ht]
  have h' : a.tmps.getD t undef = .bool b := h
  unfold Array.getD at h'
  split at h'
  ·rename_i hlt
   rw [Array.getElem?_eq_getElem hlt]
   have h2 : a.tmps[t] = .bool b := h'
   rw [h2]
  ·cases h'
theorem stepOk_yes {o : Oper} {a : Act} {W : World} {R : Value -> World -> Prop} {j : Nat} {t : Tmp} {b : Bool} (hg : o.guard = some (j, b)) (ht : dstOf ops j = some t) (he : a.eval (.tmp t) = .bool b) (h : o.wp P a W (fun a' W' => ∃ v, a' = a.put o.dst v /\ Later W W' /\ R v W') Q) : StepOk P ops Q o a W R := by
 unfold StepOk
 rw [if_pos (by unfold Region.wanted; rw [hg]; simp [yielded_of ht he])]
 exact h
theorem stepOk_no {o : Oper} {a : Act} {W : World} {R : Value -> World -> Prop} {j : Nat} {t : Tmp} {b c : Bool} (hg : o.guard = some (j, b)) (ht : dstOf ops j = some t) (he : a.eval (.tmp t) = .bool c) (hne : c ≠ b) (h : R undef W) : StepOk P ops Q o a W R := by
 unfold StepOk
 rw [if_neg (by unfold Region.wanted; rw [hg]; simp [yielded_of ht he, hne])]
 exact h
section
variable {o : Oper} {a : Act} {W : World} {R : Value -> World -> Prop}
theorem op_move {x : Operand} (ho : o.op = .move x) (h : R (a.eval x) W) : o.wp P a W (fun a' W' => ∃ v, a' = a.put o.dst v /\ Later W W' /\ R v W') Q := by
 unfold Oper.wp execOp
 simp only [ho, Sem.run_pure, Oper.upon]
 exact ⟨_, rfl, Later.refl _, h⟩
theorem op_assign {x : Operand} (ho : o.op = .assign x) (h : R (a.eval x) W) : o.wp P a W (fun a' W' => ∃ v, a' = a.put o.dst v /\ Later W W' /\ R v W') Q := by
 unfold Oper.wp execOp
 simp only [ho, Sem.run_pure, Oper.upon]
 exact ⟨_, rfl, Later.refl _, h⟩
theorem op_pick {c x y : Operand} {b : Bool} (ho : o.op = .pick c x y) (hc : a.eval c = .bool b) (h : R (if b then a.eval x else a.eval y) W) : o.wp P a W (fun a' W' => ∃ v, a' = a.put o.dst v /\ Later W W' /\ R v W') Q := by
 unfold Oper.wp execOp
 simp only [ho, hc, asBool, Sem.run_bind, Sem.run_pure, Result.andThen_ok, Oper.upon]
 exact ⟨_, rfl, Later.refl _, h⟩
theorem op_slice {t : TypeId} {x : Operand} {lo hi mx : Option Operand} {vx v : Value} {vlo vhi vmx : Option Value} {W' : World} (ho : o.op = .slice t x lo hi mx) (hx : a.eval x = vx) (hl : lo.map a.eval = vlo) (hh : hi.map a.eval = vhi) (hm : mx.map a.eval = vmx)
  (hr : (Instr.sliceAt t vx vlo vhi vmx).run P W = .ok v W) (h : R v W) : o.wp P a W (fun a' W' => ∃ v, a' = a.put o.dst v /\ Later W W' /\ R v W') Q := by
 unfold Oper.wp execOp
 simp only [ho, hx, hl, hh, hm, hr, Sem.run_bind, Sem.run_pure, Result.andThen_ok, Oper.upon]
 exact ⟨_, rfl, Later.refl _, h⟩
theorem op_buildSlice {t : TypeId} {n : Nat} {parts : Array (Nat × Operand)} {vs : Array (Nat × Value)} {v : Value} {W' : World} (ho : o.op = .buildSlice t n parts) (hp : (parts.map fun (i, x) => (i, a.eval x)) = vs)
  (hr : (Instr.buildSlice t n vs).run P W = .ok v W') (hL : Later W W') (h : R v W') : o.wp P a W (fun a' W' => ∃ v, a' = a.put o.dst v /\ Later W W' /\ R v W') Q := by
 unfold Oper.wp execOp
 simp only [ho, hp, hr, Sem.run_bind, Sem.run_pure, Result.andThen_ok, Oper.upon]
 exact ⟨_, rfl, hL, h⟩
theorem op_convert {s t : TypeId} {x : Operand} {vx v : Value} {W' : World} (ho : o.op = .convert s t x) (hx : a.eval x = vx) (hr : (convert s t vx).run P W = .ok v W') (hL : Later W W') (h : R v W') : o.wp P a W (fun a' W' => ∃ v, a' = a.put o.dst v /\ Later W W' /\ R v W') Q := by
 unfold Oper.wp execOp
 simp only [ho, hx, hr, Sem.run_bind, Sem.run_pure, Result.andThen_ok, Oper.upon]
 exact ⟨_, rfl, hL, h⟩
theorem op_extract {x : Operand} {i : Nat} {vx v : Value} (ho : o.op = .extract x i) (hx : a.eval x = vx) (hr : (Instr.extract vx i).run P W = .ok v W) (h : R v W) : o.wp P a W (fun a' W' => ∃ v, a' = a.put o.dst v /\ Later W W' /\ R v W') Q := by
 unfold Oper.wp execOp
 simp only [ho, hx, hr, Sem.run_bind, Sem.run_pure, Result.andThen_ok, Oper.upon]
 exact ⟨_, rfl, Later.refl _, h⟩
theorem op_binOp {b : BinOp} {t u : TypeId} {x y : Operand} {vx vy v : Value} (ho : o.op = .binOp b t x y u) (hx : a.eval x = vx) (hy : a.eval y = vy) (he : (eqGuard b t x y vx vy).run P W = .ok () W) (hr : (binOp b t vx vy).run P W = .ok v W) (h : R v W) : o.wp P a W (fun a' W' => ∃ v, a' = a.put o.dst v /\ Later W W' /\ R v W') Q := by
 unfold Oper.wp execOp
 simp only [ho, hx, hy, he, hr, Sem.run_bind, Sem.run_pure, Result.andThen_ok, Oper.upon]
 exact ⟨_, rfl, Later.refl _, h⟩
theorem op_call {c : Call} {f : FuncId} {args : Array Value} (ho : o.op = .call c) (hr : ((do let d <- resolve a.eval c o.type; invoke d.target d.args) : Sem Next).run P W = .ok (.enter f args) W)
  (h : Calls P f args W fun e W' => ∃ v, e = .returned v /\ Later W W' /\ R v W') : o.wp P a W (fun a' W' => ∃ v, a' = a.put o.dst v /\ Later W W' /\ R v W') Q := by
 unfold Oper.wp execOp
 simp only [ho]
 rw [hr]
 exact h.mono fun e W' ⟨v, he, hL, hv⟩ => by subst he; exact ⟨v, rfl, hL, hv⟩
theorem op_value {v : Value} {W' : World} (hr : (execOp a.eval o).run P W = .ok (.value v) W') (hL : Later W W') (h : R v W') : o.wp P a W (fun a' W' => ∃ v, a' = a.put o.dst v /\ Later W W' /\ R v W') Q := by
 unfold Oper.wp
 rw [hr]
 exact ⟨_, rfl, hL, h⟩
end
end
structure Pr where
 R : Value -> World -> Prop
 st : ∀ v W W', R v W -> Later W W' -> R v W'
def Pr.eq (c : Value) : Pr := ⟨fun v _ => v = c, fun _ _ _ h _ => h⟩
def Pr.any : Pr := ⟨fun _ _ => True, fun _ _ _ h _ => h⟩
def Pr.rd (n : Nat) (l : List UInt8) : Pr := ⟨fun v W => ∃ A c, v = .slice A n c /\ n <= c /\ Rd W A l, fun _ _ _ ⟨A, c, e, hc, h⟩ hL => ⟨A, c, e, hc, h.later hL⟩⟩
def Vof (Vs : List Pr) (j : Nat) (v : Value) (W : World) : Prop := match Vs[j]? with
 | some p => p.R v W
 | none => True
theorem Vof.st (Vs : List Pr) : ∀ j v W W', Vof Vs j v W -> Later W W' -> Vof Vs j v W' := fun j v W W' h hL => by
 unfold Vof at *
 cases hj : Vs[j]? with
 | none => trivial
 | some p => rw [hj] at h; exact p.st v W W' h hL
def AllFrom (Φ : Nat -> Oper -> Prop) : Nat -> List Oper -> Prop
 | _, [] => True
 | k, o :: os => Φ k o /\ AllFrom Φ (k + 1) os
theorem allFrom_get {Φ : Nat -> Oper -> Prop} : ∀ (l : List Oper) (k : Nat), AllFrom Φ k l -> ∀ i o, l[i]? = some o -> Φ (k + i) o
 | [], _, _, i, o, h => by simp at h
 | x :: xs, k, hA, 0, o, h => by
  rw [List.getElem?_cons_zero] at h
  injection h with h
  subst h
  exact hA.1
 | x :: xs, k, hA, i + 1, o, h => by
  rw [List.getElem?_cons_succ] at h
  have := allFrom_get xs (k + 1) hA.2 i o h
  rwa [show k + 1 + i = k + (i + 1) from by omega] at this
section
variable {P : Program} {Q : Exit -> Act -> World -> Prop}
theorem wp_region_list {id : Nat} {l : List Oper} {a0 : Act} {w : World} (Vs : List Pr) (hm : P.follows .mixedOrders = true) (hd : dstsB l.toArray = true) (hb : backB l.toArray = true) (hin : dstIn l.toArray a0.tmps.size = true)
  (step : AllFrom (fun i o => ∀ a W, Later w W -> Env l.toArray a0 (Vof Vs) i a W -> StepOk P l.toArray Q o a W (Vof Vs i)) 0 l)
  (done : ∀ xs W, Later w W -> (∀ j, j < l.length -> Vof Vs j (xs j) W) -> Q .normal (putL l 0 xs a0) W) : (Code.region id l.toArray true).wp P Q a0 w :=
 wp_region_values hm hd hb hin (Vof Vs) (Vof.st Vs) (fun i o a W ho hL he => by
  have h := allFrom_get l 0 step i o (by simpa using ho)
  rw [Nat.zero_add] at h
  exact h a W hL he) (fun xs W hL hx => done xs W hL (fun j hj => hx j (by simpa using hj)))
variable {o : Oper} {a : Act} {W : World} {R : Value -> World -> Prop}
theorem op_callF {f : FuncId} {xs : Array Operand} {ts : Array TypeId} {vs : Array Value} (ho : o.op = .call { callee := .value (.func f), args := xs, argTypes := ts }) (hv : xs.map a.eval = vs) (eg : ∀ args w, (callFunc f args).run P w = .ok (.enter f args) w)
  (h : Calls P f vs W fun e W' => ∃ v, e = .returned v /\ Later W W' /\ R v W') : o.wp P a W (fun a' W' => ∃ v, a' = a.put o.dst v /\ Later W W' /\ R v W') Q := by
 refine op_call ho ?_ h
 simp [resolve, invoke, go_sem, hv, eg, Act.eval]
theorem op_len {x : Operand} {t U : TypeId} (ht : P.underlying t = some (.slice U)) {A : Option Addr} {n c : Nat} (ho : o.op = .call { callee := .builtin .len, args := #[x], argTypes := #[t] }) (hx : a.eval x = .slice A n c) (h : R (.int .i64 (n : Int)) W) :
  o.wp P a W (fun a' W' => ∃ v, a' = a.put o.dst v /\ Later W W' /\ R v W') Q := by
 refine op_value (v := .int .i64 (n : Int)) (W' := W) ?_ (Later.refl _) h
 unfold execOp
 simp only [ho, resolve, invoke, builtin, List.map_toArray, List.map_cons, List.map_nil, hx, Sem.run_bind, Sem.run_pure, Result.andThen_ok]
 simp [Builtin.len_, run_underlying ht, goInt]
end
section
variable {P : Program} {Q : Exit -> Act -> World -> Prop}
def ancB (ops : Array Oper) : Bool := (List.range (ops.size - 1)).all fun i => (List.range ops.size).any fun k => decide (i < k) && waits ops k i
theorem anc_all {ops : Array Oper} (h : ancB ops = true) {l : Array Bool} (hcl : ∀ i j, l.getD i false = true -> waits ops i j = true -> l.getD j false = true) (hlast : ∀ j, waits ops (ops.size - 1) j = true -> l.getD j false = true) :
  ∀ i, i < ops.size - 1 -> l.getD i false = true := by
 have key : ∀ d i, ops.size - 1 - i = d -> i < ops.size - 1 -> l.getD i false = true := by
  intro d
  induction d using Nat.strongRecOn with
  | _ d ih =>
   intro i hd hi
   unfold ancB at h
   rw [List.all_eq_true] at h
   have h1 := h i (List.mem_range.2 hi)
   rw [List.any_eq_true] at h1
   obtain ⟨k, hk, h2⟩ := h1
   rw [List.mem_range] at hk
   simp at h2
   by_cases e : k = ops.size - 1
   ·subst e; exact hlast i h2.2
   ·exact hcl k i (ih (ops.size - 1 - k) (by omega) k rfl (by omega)) h2.2
 exact fun i hi => key _ i rfl hi
def plainB (o : Oper) : Bool := match o.op with
 | .defer _ => false
 | _ => true
def plainAll (ops : Array Oper) : Bool := ops.all plainB
theorem plain_of {o : Oper} (h : plainB o = true) : ∀ c, o.op ≠ .defer c := fun c e => by
 unfold plainB at h
 rw [e] at h
 cases h
theorem plainAll_get {ops : Array Oper} (h : plainAll ops = true) {i : Nat} {o : Oper} (ho : ops[i]? = some o) : ∀ c, o.op ≠ .defer c := by
 obtain ⟨hi, rfl⟩ := Array.getElem?_eq_some_iff.1 ho
 exact plain_of (Array.all_eq_true.1 h i hi)
def Wide (F : Fence) : Prop := F = Fence.wide \/ ∃ l, F = Fence.wide.inRound l
theorem wide_round (l : Nat) : Wide (Fence.wide.inRound l) := .inr ⟨l, rfl⟩
theorem wide_wide : Wide Fence.wide := .inl rfl
theorem Wide.fn {F : Fence} (h : Wide F) (f : FuncId) : F.fn f := by
 rcases h with rfl | ⟨l, rfl⟩ <;> trivial
theorem Wide.depth {F : Fence} (h : Wide F) : ¬ F.depth.isSome = true := by
 rcases h with rfl | ⟨l, rfl⟩ <;> simp [Fence.wide]
theorem Wide.calls {F : Fence} (h : Wide F) {n : Nat} {f : FuncId} {args : Array Value} {w : World} {R : Ending -> World -> Prop} (hc : Calls P f args w R) : CallsIn F n P f args w R := by
 rcases h with rfl | ⟨l, rfl⟩
 ·exact callsIn_wide.2 hc
 ·exact CallsIn.inRound l (callsIn_wide.2 hc)
theorem Wide.rows {F : Fence} (h : Wide F) {n : Nat} {r : String} {args : Array Value} {w : World} {R : Value -> World -> Prop} (hc : Rows P r args w R) : RowsIn F n P r args w R := by
 rcases h with rfl | ⟨l, rfl⟩
 ·exact fun c cs _ => let ⟨v, w', hr, s⟩ := hc c cs; ⟨v, w', hr, stepsIn_wide.2 s⟩
 ·exact fun c cs _ => let ⟨v, w', hr, s⟩ := hc c cs; ⟨v, w', hr, by rw [fenced_inRound]; exact stepsIn_wide.2 s⟩
theorem opIn_of_op {F : Fence} (hF : Wide F) {n : Nat} {o : Oper} (hnd : ∀ c, o.op ≠ .defer c) {a : Act} {w : World} {K : Act -> World -> Prop} (h : o.wp P a w K Q) : o.wpIn F n P a w K Q := by
 refine ⟨fun f _ => hF.fn f, ?_⟩
 unfold Oper.wp at h
 rw [Oper.semAt_eq _ _ _ hnd]
 generalize (execOp a.eval o).run P w = r at *
 cases r with
 | ok x w' =>
  cases x
  all_goals first
   | exact h
   | exact ⟨fun e => absurd e hF.depth, hF.calls h⟩
   | exact ⟨fun e => absurd e hF.depth, hF.rows h⟩
   | exact False.elim h
 | halt x w' =>
  cases x <;> first | exact h | exact False.elim h
theorem wpAnyIn_tail {F : Fence} (hF : Wide F) {n : Nat} {ops : Array Oper} (hp : plainAll ops = true) (hd : dstsB ops = true) (hb : backB ops = true) (ha : ancB ops = true) {a0 : Act} (hin : dstIn ops a0.tmps.size = true) {w : World} {m : Nat} (hm : ops.size = m + 1) {last : Oper} (hlast : ops[m]? = some last)
  (V : Nat -> Value -> World -> Prop) (hV : ∀ j v W W', V j v W -> Later W W' -> V j v W')
  (step : ∀ i o a W, i < m -> ops[i]? = some o -> Later w W -> Env ops a0 V i a W -> StepOk P ops Q o a W (V i))
  (fin : ∀ xs W, Later w W -> (∀ j, j < m -> V j (xs j) W) -> (∀ x, keepsB ops m x = true -> (putL (ops.toList.take m) 0 xs a0).eval x = a0.eval x) -> (∀ j t, j < m -> dstOf ops j = some t -> (putL (ops.toList.take m) 0 xs a0).eval (.tmp t) = xs j) ->
   if Region.wanted last (yielded ops (putL (ops.toList.take m) 0 xs a0).tmps) then last.wp P (putL (ops.toList.take m) 0 xs a0) W (fun a' W' => Q .normal a' W') Q else Q .normal ((putL (ops.toList.take m) 0 xs a0).put last.dst undef) W) :
  ∀ (fuel : Nat) (l : Array Bool) (a : Act) (W : World), l.toList.count false <= fuel -> l.getD m false = false -> Inv ops a0 w V l a W -> wpAnyIn F n P .any ops Q fuel l a W := by
 have hlaid : ∀ (l : Array Bool) (xs : Nat -> Value), l.getD m false = false -> (∀ i, i < m -> l.getD i false = true) -> laid ops a0 l xs ops.size = putL (ops.toList.take m) 0 xs a0 := fun l xs hf hl => by
  rw [hm, laid, if_neg (by rw [hf]; simp)]
  have key : ∀ (os : List Oper) (k : Nat), k + os.length = m -> (∀ j, j < os.length -> os[j]? = ops[k + j]?) -> putL os k xs (laid ops a0 l xs k) = laid ops a0 l xs m := by
   intro os
   induction os with
   | nil => intro k hk _; rw [show m = k from by simpa using hk.symm]; rfl
   | cons o os ih =>
    intro k hk hos
    rw [putL]
    have h0 : ops[k]? = some o := by have := hos 0 (by simp); simpa using this.symm
    have e : (laid ops a0 l xs k).put o.dst (xs k) = laid ops a0 l xs (k + 1) := by
     rw [laid, if_pos (hl k (by simp at hk; omega))]
     unfold dstOf
     rw [h0]
    rw [e]
    refine ih (k + 1) (by simp at hk; omega) (fun j hj => ?_)
    have := hos (j + 1) (by simp; omega)
    rw [List.getElem?_cons_succ] at this
    rw [this]
    congr 1
    omega
  refine (key (ops.toList.take m) 0 (by simp; omega) (fun j hj => ?_)).symm
  rw [List.getElem?_take_of_lt (by simp at hj; omega)]
  simp
 intro fuel
 induction fuel with
 | zero =>
  intro l a W hc hlf hI
  exfalso
  have hmm : m < l.size := by rw [hI.size]; omega
  have hmem : false ∈ l.toList := by
   have : l[m] = false := by simpa [Array.getD, hmm] using hlf
   rw [<- this]; exact Array.mem_toList_iff.2 (Array.getElem_mem hmm)
  have := List.count_pos_iff.2 hmem
  omega
 | succ fuel ih =>
  intro l a W hc hlf hI
  refine ⟨fun hr => ?_, fun i hi => ?_⟩
  ·have := ready_nil hb hI.size hr m (by omega)
   rw [hlf] at this; cases this
  obtain ⟨h1, o, ho, hdeps⟩ := mem_ready.1 hi
  have hlt : i < ops.size := (Array.getElem?_eq_some_iff.1 ho).1
  have hi' : i < l.size := by rw [hI.size]; exact hlt
  have hf : l.getD i false = false := by simp [Array.getD, hi'] at h1 ⊢; exact h1
  obtain ⟨xs, rfl, hx⟩ := hI.act
  have hdst : dstOf ops i = o.dst := by unfold dstOf; rw [ho]
  have hwl : ∀ j, waits ops i j = true -> l.getD j false = true := fun j hw => by
   unfold waits at hw
   rw [ho] at hw
   obtain ⟨k, hk, h2⟩ := Array.any_eq_true.1 hw
   simp at h2
   rw [<- h2.2]
   exact hdeps _ (Array.getElem_mem hk) h2.1
  have hjlt : ∀ j t, dstOf ops j = some t -> j < ops.size := fun j t h => by
   unfold dstOf at h
   cases hj : ops[j]? with
   | none => rw [hj] at h; cases h
   | some o' => exact (Array.getElem?_eq_some_iff.1 hj).1
  have hts : ∀ j t, dstOf ops j = some t -> t < a0.tmps.size := fun j t h => by
   unfold dstIn at hin
   rw [List.all_eq_true] at hin
   have := hin j (List.mem_range.2 (hjlt j t h))
   rw [h] at this
   simpa using this
  have hkeep : ∀ x, keepsB ops i x = true -> (laid ops a0 l xs ops.size).eval x = a0.eval x := fun x hk => laid_keep x _ (fun j d hj hjd hl hx' => by
    subst hx'
    unfold keepsB at hk
    rw [List.all_eq_true] at hk
    have h3 := hk j (List.mem_range.2 hj)
    rw [hjd] at h3
    simp at h3
    rcases h3 with h3 | h3
    ·subst h3; rw [hf] at hl; cases hl
    ·have := hI.closed j i hl h3
     rw [hf] at this; cases this)
  have hget : ∀ j t, l.getD j false = true -> dstOf ops j = some t -> (laid ops a0 l xs ops.size).eval (.tmp t) = xs j := fun j t hl ht => laid_get hd ht hl (hts j t ht) _ (Nat.le_refl _) (hjlt j t ht)
  by_cases him : i = m
  ·subst him
   have hall := anc_all ha hI.closed (by rw [hm]; simpa using hwl)
   rw [hm] at hall
   have hall' : ∀ j, j < i -> l.getD j false = true := fun j hj => hall j (by omega)
   obtain rfl : o = last := by rw [ho] at hlast; exact Option.some.inj hlast
   have hf2 := fin xs W hI.later (fun j hj => hx j (by omega) (hall' j hj)) (fun x hk => by rw [<- hlaid l xs hf hall']; exact hkeep x hk) (fun j t hj ht => by rw [<- hlaid l xs hf hall']; exact hget j t (hall' j hj) ht)
   rw [<- hlaid l xs hf hall'] at hf2
   have hend : ∀ a' W', Q .normal a' W' -> wpAnyIn F n P .any ops Q fuel (l.setIfInBounds i true) a' W' := fun a' W' hq => by
    refine wpAnyIn_done ?_ hq _
    rw [List.eq_nil_iff_forall_not_mem]
    intro k hk
    obtain ⟨h1, o', ho', _⟩ := mem_ready.1 hk
    have hklt : k < ops.size := (Array.getElem?_eq_some_iff.1 ho').1
    have hk' : k < (l.setIfInBounds i true).size := by rw [Array.size_setIfInBounds, hI.size]; exact hklt
    have h2 : (l.setIfInBounds i true).getD k false = true := by
     by_cases e : k = i
     ·subst e; simp [Array.getD, hi']
     ·exact getD_set_true (hall' k (by omega))
    generalize l.setIfInBounds i true = l' at *
    simp [Array.getD, hk'] at h1 h2
    rw [h2] at h1
    cases h1
   unfold wpOpIn
   rw [ho]
   simp only
   split
   ·rename_i hw
    rw [if_pos hw] at hf2
    exact Oper.wpIn_mono (fun a' W' h => hend a' W' h) (opIn_of_op hF (plainAll_get hp ho) hf2)
   ·rename_i hw
    rw [if_neg hw] at hf2
    exact ⟨fun f _ => hF.fn f, hend _ _ hf2⟩
  ·have henv : Env ops a0 V i (laid ops a0 l xs ops.size) W := ⟨hkeep, fun j t hw ht => by
    rw [hget j t (hwl j hw) ht]
    exact hx j (hjlt j t ht) (hwl j hw)⟩
   have hs := step i o _ W (by omega) ho hI.later henv
   have hset : ∀ j, j ≠ i -> (l.setIfInBounds i true).getD j false = l.getD j false := fun j hj => getD_set_ne false (fun e => hj e.symm)
   have next : ∀ v W', Later W W' -> V i v W' -> Inv ops a0 w V (l.setIfInBounds i true) ((laid ops a0 l xs ops.size).put o.dst v) W' := fun v W' hL hv => by
    refine ⟨by simpa using hI.size, fun p q hp hw => ?_, hI.later.step hL, (fun j => if j = i then v else xs j), ?_, fun j hj hl => ?_⟩
    ·by_cases e : p = i
     ·subst e
      exact getD_set_true (hwl q hw)
     ·rw [hset p e] at hp
      exact getD_set_true (hI.closed p q hp hw)
    ·rw [<- hdst]
     exact laid_put hd v hi' hf _ (Nat.le_refl _) hlt
    ·show V j (if j = i then v else xs j) W'
     by_cases e : j = i
     ·subst e; rw [if_pos rfl]; exact hv
     ·rw [if_neg e]
      rw [hset j e] at hl
      exact hV j _ W W' (hx j hj hl) hL
   have hcnt : (l.setIfInBounds i true).toList.count false <= fuel := by
    have hil : i < l.toList.length := by simpa using hi'
    have hlv : l.toList[i] = false := by simpa [Array.getD, hi'] using hf
    have := List.count_set (a := true) (b := false) (l := l.toList) (i := i) hil
    rw [Array.toList_setIfInBounds, this, hlv, if_pos (show (false == false) = true from rfl), if_neg (show ¬ (true == false) = true from by decide)]
    have hp : 0 < l.toList.count false := List.count_pos_iff.2 (by rw [<- hlv]; exact List.getElem_mem hil)
    omega
   have hlf' : (l.setIfInBounds i true).getD m false = false := by rw [hset m (fun e => him e.symm)]; exact hlf
   unfold wpOpIn
   rw [ho]
   unfold StepOk at hs
   simp only
   split
   ·rename_i hw
    rw [if_pos hw] at hs
    refine Oper.wpIn_mono (fun a' W' h => ?_) (opIn_of_op hF (plainAll_get hp ho) hs)
    obtain ⟨v, rfl, hL, hv⟩ := h
    exact ih _ _ _ hcnt hlf' (next v W' hL hv)
   ·rename_i hw
    rw [if_neg hw] at hs
    exact ⟨fun f _ => hF.fn f, ih _ _ _ hcnt hlf' (next undef W (Later.refl W) hs)⟩
theorem wpIn_region_tail {F : Fence} (hF : Wide F) {n : Nat} {id : Nat} {l : List Oper} {last : Oper} {a0 : Act} {w : World} (Vs : List Pr) (hm : P.follows .mixedOrders = true) (hp : plainAll (l ++ [last]).toArray = true) (hd : dstsB (l ++ [last]).toArray = true) (hb : backB (l ++ [last]).toArray = true) (ha : ancB (l ++ [last]).toArray = true) (hin : dstIn (l ++ [last]).toArray a0.tmps.size = true)
  (step : AllFrom (fun i o => ∀ a W, Later w W -> Env (l ++ [last]).toArray a0 (Vof Vs) i a W -> StepOk P (l ++ [last]).toArray Q o a W (Vof Vs i)) 0 l) (hg : last.guard = none)
  (fin : ∀ xs W, Later w W -> (∀ j, j < l.length -> Vof Vs j (xs j) W) -> (∀ x, keepsB (l ++ [last]).toArray l.length x = true -> (putL l 0 xs a0).eval x = a0.eval x) -> (∀ j t, j < l.length -> dstOf (l ++ [last]).toArray j = some t -> (putL l 0 xs a0).eval (.tmp t) = xs j) ->
   last.wp P (putL l 0 xs a0) W (fun a' W' => Q .normal a' W') Q) : (Code.region id (l ++ [last]).toArray true).wpIn F n P Q a0 w := by
 have htake : (l ++ [last]).toArray.toList.take l.length = l := by simp
 refine wpIn_region_any hm (wpAnyIn_tail hF hp hd hb ha hin (m := l.length) (last := last) (by simp) (by simp) (Vof Vs) (Vof.st Vs) (fun i o a W hi ho hL he => ?_) (fun xs W hL hx hk hg' => ?_) _ _ _ _ ?_ ?_ ⟨by simp, fun i j hi _ => ?_, (Later.refl w).drew, fun _ => undef, ?_, fun j hj hl => ?_⟩)
 ·have h := allFrom_get l 0 step i o (by
   rw [List.getElem?_toArray, List.getElem?_append_left hi] at ho
   exact ho)
  rw [Nat.zero_add] at h
  exact h a W hL he
 ·rw [htake] at hk hg' ⊢
  rw [if_pos (by unfold Region.wanted; rw [hg])]
  exact fin xs W hL hx hk hg'
 ·simp
 ·simp [Array.getD]
 ·exfalso
  simp [Array.getD] at hi
 ·have : ∀ k, laid (l ++ [last]).toArray a0 (Array.replicate (l ++ [last]).toArray.size false) (fun _ => undef) k = a0 := fun k => by
   induction k with
   | zero => rfl
   | succ k ih => rw [laid, if_neg (by simp [Array.getD]), ih]
  exact (this _).symm
 ·exfalso
  simp [Array.getD] at hl
theorem wpAnyIn_values {F : Fence} (hF : Wide F) {n : Nat} {ops : Array Oper} (hp : plainAll ops = true) (hd : dstsB ops = true) (hb : backB ops = true) {a0 : Act} (hin : dstIn ops a0.tmps.size = true) {w : World} (V : Nat -> Value -> World -> Prop) (hV : ∀ j v W W', V j v W -> Later W W' -> V j v W')
  (step : ∀ i o a W, ops[i]? = some o -> Later w W -> Env ops a0 V i a W -> StepOk P ops Q o a W (V i))
  (done : ∀ xs W, Later w W -> (∀ j, j < ops.size -> V j (xs j) W) -> Q .normal (putL ops.toList 0 xs a0) W) :
  ∀ (fuel : Nat) (l : Array Bool) (a : Act) (W : World), l.toList.count false <= fuel -> Inv ops a0 w V l a W -> wpAnyIn F n P .any ops Q fuel l a W := by
 have fin : ∀ (l : Array Bool) (a : Act) (W : World), Inv ops a0 w V l a W -> (∀ i, i < ops.size -> l.getD i false = true) -> Q .normal a W := fun l a W hI hl => by
  obtain ⟨xs, rfl, hx⟩ := hI.act
  rw [laid_all hl]
  exact done xs W hI.later (fun j hj => hx j hj (hl j hj))
 intro fuel
 induction fuel with
 | zero =>
  intro l a W hc hI
  have hall : ∀ i, i < ops.size -> l.getD i false = true := fun i hi => by
   have hi' : i < l.size := by rw [hI.size]; exact hi
   cases h : l.getD i false
   ·exfalso
    have hm : false ∈ l.toList := by
     have : l[i] = false := by simpa [Array.getD, hi'] using h
     rw [<- this]; exact Array.mem_toList_iff.2 (Array.getElem_mem hi')
    have := List.count_pos_iff.2 hm
    omega
   ·rfl
  refine ⟨?_, fin l a W hI hall⟩
  rw [List.eq_nil_iff_forall_not_mem]
  intro i hi
  obtain ⟨h1, o, ho, _⟩ := mem_ready.1 hi
  have hlt : i < ops.size := (Array.getElem?_eq_some_iff.1 ho).1
  have hi' : i < l.size := by rw [hI.size]; exact hlt
  have := hall i hlt
  simp [Array.getD, hi'] at this h1
  rw [this] at h1; cases h1
 | succ fuel ih =>
  intro l a W hc hI
  refine ⟨fun hr => fin l a W hI (ready_nil hb hI.size hr), fun i hi => ?_⟩
  obtain ⟨h1, o, ho, hdeps⟩ := mem_ready.1 hi
  have hlt : i < ops.size := (Array.getElem?_eq_some_iff.1 ho).1
  have hi' : i < l.size := by rw [hI.size]; exact hlt
  have hf : l.getD i false = false := by simp [Array.getD, hi'] at h1 ⊢; exact h1
  obtain ⟨xs, rfl, hx⟩ := hI.act
  have hdst : dstOf ops i = o.dst := by unfold dstOf; rw [ho]
  have hwl : ∀ j, waits ops i j = true -> l.getD j false = true := fun j hw => by
   unfold waits at hw
   rw [ho] at hw
   obtain ⟨k, hk, h2⟩ := Array.any_eq_true.1 hw
   simp at h2
   rw [<- h2.2]
   exact hdeps _ (Array.getElem_mem hk) h2.1
  have hjlt : ∀ j t, dstOf ops j = some t -> j < ops.size := fun j t h => by
   unfold dstOf at h
   cases hj : ops[j]? with
   | none => rw [hj] at h; cases h
   | some o' => exact (Array.getElem?_eq_some_iff.1 hj).1
  have hts : ∀ j t, dstOf ops j = some t -> t < a0.tmps.size := fun j t h => by
   unfold dstIn at hin
   rw [List.all_eq_true] at hin
   have := hin j (List.mem_range.2 (hjlt j t h))
   rw [h] at this
   simpa using this
  have henv : Env ops a0 V i (laid ops a0 l xs ops.size) W := by
   refine ⟨fun x hk => laid_keep x _ (fun j d hj hjd hl hx' => ?_), fun j t hw ht => ?_⟩
   ·subst hx'
    unfold keepsB at hk
    rw [List.all_eq_true] at hk
    have h3 := hk j (List.mem_range.2 hj)
    rw [hjd] at h3
    simp at h3
    rcases h3 with h3 | h3
    ·subst h3; rw [hf] at hl; cases hl
    ·have := hI.closed j i hl h3
     rw [hf] at this; cases this
   ·rw [laid_get hd ht (hwl j hw) (hts j t ht) _ (Nat.le_refl _) (hjlt j t ht)]
    exact hx j (hjlt j t ht) (hwl j hw)
  have hs := step i o _ W ho hI.later henv
  have next : ∀ v W', Later W W' -> V i v W' -> Inv ops a0 w V (l.setIfInBounds i true) ((laid ops a0 l xs ops.size).put o.dst v) W' := fun v W' hL hv => by
   have hset : ∀ j, j ≠ i -> (l.setIfInBounds i true).getD j false = l.getD j false := fun j hj => getD_set_ne false (fun e => hj e.symm)
   refine ⟨by simpa using hI.size, fun p q hp hw => ?_, hI.later.step hL, (fun j => if j = i then v else xs j), ?_, fun j hj hl => ?_⟩
   ·by_cases e : p = i
    ·subst e
     exact getD_set_true (hwl q hw)
    ·rw [hset p e] at hp
     exact getD_set_true (hI.closed p q hp hw)
   ·rw [<- hdst]
    exact laid_put hd v hi' hf _ (Nat.le_refl _) hlt
   ·show V j (if j = i then v else xs j) W'
    by_cases e : j = i
    ·subst e; rw [if_pos rfl]; exact hv
    ·rw [if_neg e]
     rw [hset j e] at hl
     exact hV j _ W W' (hx j hj hl) hL
  have hcnt : (l.setIfInBounds i true).toList.count false <= fuel := by
   have hil : i < l.toList.length := by simpa using hi'
   have hlv : l.toList[i] = false := by simpa [Array.getD, hi'] using hf
   have := List.count_set (a := true) (b := false) (l := l.toList) (i := i) hil
   rw [Array.toList_setIfInBounds, this, hlv, if_pos (show (false == false) = true from rfl), if_neg (show ¬ (true == false) = true from by decide)]
   have hp : 0 < l.toList.count false := List.count_pos_iff.2 (by rw [<- hlv]; exact List.getElem_mem hil)
   omega
  unfold wpOpIn
  rw [ho]
  unfold StepOk at hs
  simp only
  split
  ·rename_i hw
   rw [if_pos hw] at hs
   refine Oper.wpIn_mono (fun a' W' h => ?_) (opIn_of_op hF (plainAll_get hp ho) hs)
   obtain ⟨v, rfl, hL, hv⟩ := h
   exact ih _ _ _ hcnt (next v W' hL hv)
  ·rename_i hw
   rw [if_neg hw] at hs
   exact ⟨fun f _ => hF.fn f, ih _ _ _ hcnt (next undef W (Later.refl W) hs)⟩
theorem wpIn_region_vals {F : Fence} (hF : Wide F) {n : Nat} {id : Nat} {l : List Oper} {a0 : Act} {w : World} (Vs : List Pr) (hm : P.follows .mixedOrders = true) (hp : plainAll l.toArray = true) (hd : dstsB l.toArray = true) (hb : backB l.toArray = true) (hin : dstIn l.toArray a0.tmps.size = true)
  (step : AllFrom (fun i o => ∀ a W, Later w W -> Env l.toArray a0 (Vof Vs) i a W -> StepOk P l.toArray Q o a W (Vof Vs i)) 0 l)
  (done : ∀ xs W, Later w W -> (∀ j, j < l.length -> Vof Vs j (xs j) W) -> Q .normal (putL l 0 xs a0) W) : (Code.region id l.toArray true).wpIn F n P Q a0 w := by
 refine wpIn_region_any hm (wpAnyIn_values hF hp hd hb hin (Vof Vs) (Vof.st Vs) (fun i o a W ho hL he => ?_) (fun xs W hL hx => done xs W hL (fun j hj => hx j (by simpa using hj))) _ _ _ _ ?_ ⟨by simp, fun i j hi _ => ?_, (Later.refl w).drew, fun _ => undef, ?_, fun j hj hl => ?_⟩)
 ·have h := allFrom_get l 0 step i o (by simpa using ho)
  rw [Nat.zero_add] at h
  exact h a W hL he
 ·simp
 ·exfalso
  simp [Array.getD] at hi
 ·have : ∀ k, laid l.toArray a0 (Array.replicate l.toArray.size false) (fun _ => undef) k = a0 := fun k => by
   induction k with
   | zero => rfl
   | succ k ih => rw [laid, if_neg (by simp [Array.getD]), ih]
  exact (this _).symm
 ·exfalso
  simp [Array.getD] at hl
variable {o : Oper} {a : Act} {W : World} {R : Value -> World -> Prop}
theorem op_load {t : TypeId} {x : Operand} {vx v : Value} (ho : o.op = .load t x) (hx : a.eval x = vx) (hr : (Instr.loadAt t vx).run P W = .ok v W) (h : R v W) : o.wp P a W (fun a' W' => ∃ v, a' = a.put o.dst v /\ Later W W' /\ R v W') Q := by
 refine op_value (v := v) (W' := W) ?_ (Later.refl _) h
 unfold execOp
 simp only [ho, hx, hr, Sem.run_bind, Sem.run_pure, Result.andThen_ok]
theorem op_alloc {t : TypeId} {v : Value} {W' : World} (ho : o.op = .alloc t) (hr : (Instr.alloc t true (.tuple #[])).run P W = .ok v W') (hL : Later W W') (h : R v W') : o.wp P a W (fun a' W' => ∃ v, a' = a.put o.dst v /\ Later W W' /\ R v W') Q := by
 refine op_value (v := v) (W' := W') ?_ hL h
 unfold execOp
 simp only [ho, hr, Sem.run_bind, Sem.run_pure, Result.andThen_ok]
theorem op_storeK {K : Act -> World -> Prop} {t : TypeId} {x y : Operand} {vx vy : Value} {W' : World} (ho : o.op = .store t x y) (hx : a.eval x = vx) (hy : a.eval y = vy) (hr : (Instr.storeAt t vx vy).run P W = .ok () W') (h : K (a.put o.dst undef) W') : o.wp P a W K Q := by
 unfold Oper.wp execOp
 simp only [ho, hx, hy, hr, Sem.run_bind, Sem.run_pure, Result.andThen_ok]
 exact h
theorem op_callV {f : FuncId} {bound all : Array Value} {x : Operand} {xs : Array Operand} {ts : Array TypeId} {vs : Array Value} (ho : o.op = .call { callee := .value x, args := xs, argTypes := ts }) (hf : a.eval x = .func (.func f) #[] bound) (hv : xs.map a.eval = vs) (eg : ∀ args w, (callFunc f args).run P w = .ok (.enter f args) w) (hall : vs ++ bound = all)
  (h : Calls P f all W fun e W' => ∃ v, e = .returned v /\ Later W W' /\ R v W') : o.wp P a W (fun a' W' => ∃ v, a' = a.put o.dst v /\ Later W W' /\ R v W') Q := by
 subst hall
 refine op_call ho ?_ h
 simp only [resolve, hf, hv]
 simp [invoke, go_sem, eg]
end
def initL : Oper -> List Oper -> List Oper
 | _, [] => []
 | o, o2 :: os => o :: initL o2 os
def lastL : Oper -> List Oper -> Oper
 | o, [] => o
 | _, o2 :: os => lastL o2 os
theorem init_last : ∀ (os : List Oper) (o : Oper), initL o os ++ [lastL o os] = o :: os
 | [], _ => rfl
 | o2 :: os, o => by rw [initL, lastL, List.cons_append, init_last os o2]
section
variable {P : Program} {Q : Exit -> Act -> World -> Prop}
structure LastOk (P : Program) (o : Oper) (a : Act) (W : World) (Q : Exit -> Act -> World -> Prop) : Prop where
 run : o.wp P a W (fun a' W' => Q .normal a' W') Q
theorem last_store {o : Oper} {a : Act} {W : World} {t : TypeId} {x y : Operand} {vx vy : Value} {W' : World} (ho : o.op = .store t x y) (hd : o.dst = none) (hx : a.eval x = vx) (hy : a.eval y = vy) (hr : (Instr.storeAt t vx vy).run P W = .ok () W') (h : Q .normal a W') : LastOk P o a W Q :=
 ⟨op_storeK (K := fun a' W' => Q .normal a' W') ho hx hy hr (by rw [hd]; exact h)⟩
theorem wpIn_region_last {F : Fence} (hF : Wide F) {n : Nat} {id : Nat} {o : Oper} {os : List Oper} {a0 : Act} {w : World} (Vs : List Pr) (hm : P.follows .mixedOrders = true) (hp : plainAll (o :: os).toArray = true) (hd : dstsB (o :: os).toArray = true) (hb : backB (o :: os).toArray = true) (ha : ancB (o :: os).toArray = true) (hin : dstIn (o :: os).toArray a0.tmps.size = true) (hg : (lastL o os).guard = none)
  (step : AllFrom (fun i o' => ∀ a W, Later w W -> Env (o :: os).toArray a0 (Vof Vs) i a W -> StepOk P (o :: os).toArray Q o' a W (Vof Vs i)) 0 (initL o os))
  (fin : ∀ xs W, Later w W -> (∀ j, j < (initL o os).length -> Vof Vs j (xs j) W) -> (∀ x, keepsB (o :: os).toArray (initL o os).length x = true -> (putL (initL o os) 0 xs a0).eval x = a0.eval x) -> (∀ j t, j < (initL o os).length -> dstOf (o :: os).toArray j = some t -> (putL (initL o os) 0 xs a0).eval (.tmp t) = xs j) ->
   LastOk P (lastL o os) (putL (initL o os) 0 xs a0) W Q) : (Code.region id (o :: os).toArray true).wpIn F n P Q a0 w := by
 have e := init_last os o
 rw [<- e] at hp hd hb ha hin step fin ⊢
 exact wpIn_region_tail hF Vs hm hp hd hb ha hin step hg (fun xs W hL hx hk hg' => (fin xs W hL hx hk hg').run)
end
section
variable {P : Program} {Q : Exit -> Act -> World -> Prop}
def anc2B (ops : Array Oper) (m : Nat) : Bool := (List.range m).all fun i => (List.range (m + 1)).any fun k => decide (i < k) && waits ops k i
theorem anc2_all {ops : Array Oper} {m : Nat} (h : anc2B ops m = true) {l : Array Bool} (hcl : ∀ i j, l.getD i false = true -> waits ops i j = true -> l.getD j false = true) (hlast : ∀ j, waits ops m j = true -> l.getD j false = true) :
  ∀ i, i < m -> l.getD i false = true := by
 have key : ∀ d i, m - i = d -> i < m -> l.getD i false = true := by
  intro d
  induction d using Nat.strongRecOn with
  | _ d ih =>
   intro i hd hi
   unfold anc2B at h
   rw [List.all_eq_true] at h
   have h1 := h i (List.mem_range.2 hi)
   rw [List.any_eq_true] at h1
   obtain ⟨k, hk, h2⟩ := h1
   rw [List.mem_range] at hk
   simp at h2
   by_cases e : k = m
   ·subst e; exact hlast i h2.2
   ·exact hcl k i (ih (m - k) (by omega) k rfl (by omega)) h2.2
 exact fun i hi => key _ i rfl hi
theorem wpAnyIn_tail2 {F : Fence} (hF : Wide F) {n : Nat} {ops : Array Oper} (hp : plainAll ops = true) (hd : dstsB ops = true) (hb : backB ops = true) {m : Nat} (ha : anc2B ops m = true) {a0 : Act} (hin : dstIn ops a0.tmps.size = true) {w : World} (hm : ops.size = m + 2) {last y : Oper} (hlast : ops[m]? = some last) (hy : ops[m + 1]? = some y) (hyg : y.guard = none) (hyw : waits ops (m + 1) m = true)
  (V : Nat -> Value -> World -> Prop) (hV : ∀ j v W W', V j v W -> Later W W' -> V j v W')
  (step : ∀ i o a W, i < m -> ops[i]? = some o -> Later w W -> Env ops a0 V i a W -> StepOk P ops Q o a W (V i))
  (fin : ∀ xs W, Later w W -> (∀ j, j < m -> V j (xs j) W) -> (∀ x, keepsB ops m x = true -> (putL (ops.toList.take m) 0 xs a0).eval x = a0.eval x) -> (∀ j t, j < m -> dstOf ops j = some t -> (putL (ops.toList.take m) 0 xs a0).eval (.tmp t) = xs j) ->
   Region.wanted last (yielded ops (putL (ops.toList.take m) 0 xs a0).tmps) = true /\ last.wp P (putL (ops.toList.take m) 0 xs a0) W (fun a' W' => y.wp P a' W' (fun a W => Q .normal a W) Q) Q) :
  ∀ (fuel : Nat) (l : Array Bool) (a : Act) (W : World), l.toList.count false <= fuel -> l.getD m false = false -> l.getD (m + 1) false = false -> Inv ops a0 w V l a W -> wpAnyIn F n P .any ops Q fuel l a W := by
 have hlaid : ∀ (l : Array Bool) (xs : Nat -> Value), l.getD m false = false -> l.getD (m + 1) false = false -> (∀ i, i < m -> l.getD i false = true) -> laid ops a0 l xs ops.size = putL (ops.toList.take m) 0 xs a0 := fun l xs hf hf1 hl => by
  rw [hm, laid, if_neg (by rw [hf1]; simp), laid, if_neg (by rw [hf]; simp)]
  have key : ∀ (os : List Oper) (k : Nat), k + os.length = m -> (∀ j, j < os.length -> os[j]? = ops[k + j]?) -> putL os k xs (laid ops a0 l xs k) = laid ops a0 l xs m := by
   intro os
   induction os with
   | nil => intro k hk _; rw [show m = k from by simpa using hk.symm]; rfl
   | cons o os ih =>
    intro k hk hos
    rw [putL]
    have h0 : ops[k]? = some o := by have := hos 0 (by simp); simpa using this.symm
    have e : (laid ops a0 l xs k).put o.dst (xs k) = laid ops a0 l xs (k + 1) := by
     rw [laid, if_pos (hl k (by simp at hk; omega))]
     unfold dstOf
     rw [h0]
    rw [e]
    refine ih (k + 1) (by simp at hk; omega) (fun j hj => ?_)
    have := hos (j + 1) (by simp; omega)
    rw [List.getElem?_cons_succ] at this
    rw [this]
    congr 1
    omega
  refine (key (ops.toList.take m) 0 (by simp; omega) (fun j hj => ?_)).symm
  rw [List.getElem?_take_of_lt (by simp at hj; omega)]
  simp
 intro fuel
 induction fuel with
 | zero =>
  intro l a W hc hlf hlf1 hI
  exfalso
  have hmm : m < l.size := by rw [hI.size]; omega
  have hmem : false ∈ l.toList := by
   have : l[m] = false := by simpa [Array.getD, hmm] using hlf
   rw [<- this]; exact Array.mem_toList_iff.2 (Array.getElem_mem hmm)
  have := List.count_pos_iff.2 hmem
  omega
 | succ fuel ih =>
  intro l a W hc hlf hlf1 hI
  refine ⟨fun hr => ?_, fun i hi => ?_⟩
  ·have := ready_nil hb hI.size hr m (by omega)
   rw [hlf] at this; cases this
  obtain ⟨h1, o, ho, hdeps⟩ := mem_ready.1 hi
  have hlt : i < ops.size := (Array.getElem?_eq_some_iff.1 ho).1
  have hi' : i < l.size := by rw [hI.size]; exact hlt
  have hf : l.getD i false = false := by simp [Array.getD, hi'] at h1 ⊢; exact h1
  obtain ⟨xs, rfl, hx⟩ := hI.act
  have hdst : dstOf ops i = o.dst := by unfold dstOf; rw [ho]
  have hwl : ∀ j, waits ops i j = true -> l.getD j false = true := fun j hw => by
   unfold waits at hw
   rw [ho] at hw
   obtain ⟨k, hk, h2⟩ := Array.any_eq_true.1 hw
   simp at h2
   rw [<- h2.2]
   exact hdeps _ (Array.getElem_mem hk) h2.1
  have hjlt : ∀ j t, dstOf ops j = some t -> j < ops.size := fun j t h => by
   unfold dstOf at h
   cases hj : ops[j]? with
   | none => rw [hj] at h; cases h
   | some o' => exact (Array.getElem?_eq_some_iff.1 hj).1
  have hts : ∀ j t, dstOf ops j = some t -> t < a0.tmps.size := fun j t h => by
   unfold dstIn at hin
   rw [List.all_eq_true] at hin
   have := hin j (List.mem_range.2 (hjlt j t h))
   rw [h] at this
   simpa using this
  have hkeep : ∀ x, keepsB ops i x = true -> (laid ops a0 l xs ops.size).eval x = a0.eval x := fun x hk => laid_keep x _ (fun j d hj hjd hl hx' => by
    subst hx'
    unfold keepsB at hk
    rw [List.all_eq_true] at hk
    have h3 := hk j (List.mem_range.2 hj)
    rw [hjd] at h3
    simp at h3
    rcases h3 with h3 | h3
    ·subst h3; rw [hf] at hl; cases hl
    ·have := hI.closed j i hl h3
     rw [hf] at this; cases this)
  have hget : ∀ j t, l.getD j false = true -> dstOf ops j = some t -> (laid ops a0 l xs ops.size).eval (.tmp t) = xs j := fun j t hl ht => laid_get hd ht hl (hts j t ht) _ (Nat.le_refl _) (hjlt j t ht)
  by_cases him : i = m
  ·subst him
   have hall' : ∀ j, j < i -> l.getD j false = true := anc2_all ha hI.closed hwl
   obtain rfl : o = last := by rw [ho] at hlast; exact Option.some.inj hlast
   have hf2 := fin xs W hI.later (fun j hj => hx j (by omega) (hall' j hj)) (fun x hk => by rw [<- hlaid l xs hf hlf1 hall']; exact hkeep x hk) (fun j t hj ht => by rw [<- hlaid l xs hf hlf1 hall']; exact hget j t (hall' j hj) ht)
   rw [<- hlaid l xs hf hlf1 hall'] at hf2
   obtain ⟨hw2, hf2⟩ := hf2
   have hpl := plainAll_get hp ho
   have hend : ∀ a' W', y.wp P a' W' (fun a W => Q .normal a W) Q -> wpAnyIn F n P .any ops Q fuel (l.setIfInBounds i true) a' W' := fun a' W' hq => by
    have hsz : (l.setIfInBounds i true).size = ops.size := by rw [Array.size_setIfInBounds, hI.size]
    have hself : (l.setIfInBounds i true).getD i false = true := by simp [Array.getD, hi']
    have hset : ∀ j, j ≠ i -> (l.setIfInBounds i true).getD j false = l.getD j false := fun j hj => getD_set_ne false (fun e => hj e.symm)
    have h1f : (l.setIfInBounds i true).getD (i + 1) false = false := by rw [hset _ (by omega)]; exact hlf1
    have hcount : 0 < fuel := by
     have hil : i < l.toList.length := by simpa using hi'
     have hlv : l.toList[i] = false := by simpa [Array.getD, hi'] using hf
     have hc2 := List.count_set (a := true) (b := false) (l := l.toList) (i := i) hil
     rw [hlv, if_pos (show (false == false) = true from rfl), if_neg (show ¬ (true == false) = true from by decide)] at hc2
     have h1l : i + 1 < (l.toList.set i true).length := by rw [List.length_set, Array.length_toList, hI.size]; omega
     have hmem : false ∈ l.toList.set i true := by
      have e : (l.toList.set i true)[i + 1] = false := by
       have : i + 1 < l.size := by rw [hI.size]; omega
       rw [List.getElem_set_ne (by omega)]
       simpa [Array.getD, this] using hlf1
      rw [<- e]; exact List.getElem_mem h1l
     have := List.count_pos_iff.2 hmem
     omega
    obtain ⟨f2, rfl⟩ : ∃ f2, fuel = f2 + 1 := ⟨fuel - 1, by omega⟩
    refine ⟨fun hr => ?_, fun k hk => ?_⟩
    ·have := ready_nil hb hsz hr (i + 1) (by omega)
     rw [h1f] at this; cases this
    ·obtain ⟨h1, o', ho', _⟩ := mem_ready.1 hk
     have hklt : k < ops.size := (Array.getElem?_eq_some_iff.1 ho').1
     have hk' : k < (l.setIfInBounds i true).size := by rw [hsz]; exact hklt
     have hkf : (l.setIfInBounds i true).getD k false = false := by
      generalize l.setIfInBounds i true = l' at *
      simp [Array.getD, hk'] at h1 ⊢
      exact h1
     have hki : k = i + 1 := by
      rcases Nat.lt_trichotomy k i with h | h | h
      ·rw [hset k (by omega), hall' k h] at hkf; cases hkf
      ·subst h; rw [hself] at hkf; cases hkf
      ·omega
     subst hki
     obtain rfl : o' = y := by rw [ho'] at hy; exact Option.some.inj hy
     have hfin : ∀ a3 W3, Q .normal a3 W3 -> wpAnyIn F n P .any ops Q f2 ((l.setIfInBounds i true).setIfInBounds (i + 1) true) a3 W3 := fun a3 W3 hq3 => by
      refine wpAnyIn_done ?_ hq3 _
      rw [List.eq_nil_iff_forall_not_mem]
      intro q hq4
      obtain ⟨g1, o4, ho4, _⟩ := mem_ready.1 hq4
      have hqlt : q < ops.size := (Array.getElem?_eq_some_iff.1 ho4).1
      have hq' : q < ((l.setIfInBounds i true).setIfInBounds (i + 1) true).size := by rw [Array.size_setIfInBounds, hsz]; exact hqlt
      have g2 : ((l.setIfInBounds i true).setIfInBounds (i + 1) true).getD q false = true := by
       by_cases e : q = i + 1
       ·subst e
        simp [Array.getD]
        rw [hI.size]; exact hklt
       ·rw [getD_set_ne false (fun e' => e e'.symm)]
        by_cases e2 : q = i
        ·subst e2; exact hself
        ·rw [hset q e2]; exact hall' q (by omega)
      generalize (l.setIfInBounds i true).setIfInBounds (i + 1) true = l' at *
      simp [Array.getD, hq'] at g1 g2
      rw [g2] at g1
      cases g1
     unfold wpOpIn
     rw [ho']
     simp only
     rw [if_pos (by unfold Region.wanted; rw [hyg])]
     exact Oper.wpIn_mono (fun a3 W3 h3 => hfin a3 W3 h3) (opIn_of_op hF (plainAll_get hp ho') hq)
   unfold wpOpIn
   rw [ho]
   simp only
   rw [if_pos hw2]
   exact Oper.wpIn_mono (fun a' W' h => hend a' W' h) (opIn_of_op hF hpl hf2)
  ·by_cases him1 : i = m + 1
   ·subst him1
    exfalso
    have := hwl m hyw
    rw [hlf] at this; cases this
   have henv : Env ops a0 V i (laid ops a0 l xs ops.size) W := ⟨hkeep, fun j t hw ht => by
    rw [hget j t (hwl j hw) ht]
    exact hx j (hjlt j t ht) (hwl j hw)⟩
   have hs := step i o _ W (by omega) ho hI.later henv
   have hset : ∀ j, j ≠ i -> (l.setIfInBounds i true).getD j false = l.getD j false := fun j hj => getD_set_ne false (fun e => hj e.symm)
   have next : ∀ v W', Later W W' -> V i v W' -> Inv ops a0 w V (l.setIfInBounds i true) ((laid ops a0 l xs ops.size).put o.dst v) W' := fun v W' hL hv => by
    refine ⟨by simpa using hI.size, fun p q hp hw => ?_, hI.later.step hL, (fun j => if j = i then v else xs j), ?_, fun j hj hl => ?_⟩
    ·by_cases e : p = i
     ·subst e
      exact getD_set_true (hwl q hw)
     ·rw [hset p e] at hp
      exact getD_set_true (hI.closed p q hp hw)
    ·rw [<- hdst]
     exact laid_put hd v hi' hf _ (Nat.le_refl _) hlt
    ·show V j (if j = i then v else xs j) W'
     by_cases e : j = i
     ·subst e; rw [if_pos rfl]; exact hv
     ·rw [if_neg e]
      rw [hset j e] at hl
      exact hV j _ W W' (hx j hj hl) hL
   have hcnt : (l.setIfInBounds i true).toList.count false <= fuel := by
    have hil : i < l.toList.length := by simpa using hi'
    have hlv : l.toList[i] = false := by simpa [Array.getD, hi'] using hf
    have := List.count_set (a := true) (b := false) (l := l.toList) (i := i) hil
    rw [Array.toList_setIfInBounds, this, hlv, if_pos (show (false == false) = true from rfl), if_neg (show ¬ (true == false) = true from by decide)]
    have hp : 0 < l.toList.count false := List.count_pos_iff.2 (by rw [<- hlv]; exact List.getElem_mem hil)
    omega
   have hlf' : (l.setIfInBounds i true).getD m false = false := by rw [hset m (fun e => him e.symm)]; exact hlf
   have hlf1' : (l.setIfInBounds i true).getD (m + 1) false = false := by rw [hset (m + 1) (fun e => him1 e.symm)]; exact hlf1
   unfold wpOpIn
   rw [ho]
   unfold StepOk at hs
   simp only
   split
   ·rename_i hw
    rw [if_pos hw] at hs
    refine Oper.wpIn_mono (fun a' W' h => ?_) (opIn_of_op hF (plainAll_get hp ho) hs)
    obtain ⟨v, rfl, hL, hv⟩ := h
    exact ih _ _ _ hcnt hlf' hlf1' (next v W' hL hv)
   ·rename_i hw
    rw [if_neg hw] at hs
    exact ⟨fun f _ => hF.fn f, ih _ _ _ hcnt hlf' hlf1' (next undef W (Later.refl W) hs)⟩
structure LastOk2 (P : Program) (o y : Oper) (a : Act) (W : World) (Q : Exit -> Act -> World -> Prop) : Prop where
 run : o.wp P a W (fun a' W' => y.wp P a' W' (fun a W => Q .normal a W) Q) Q
def init2 : Oper -> Oper -> List Oper -> List Oper
 | _, _, [] => []
 | o, o2, o3 :: os => o :: init2 o2 o3 os
def pen2 : Oper -> Oper -> List Oper -> Oper
 | o, _, [] => o
 | _, o2, o3 :: os => pen2 o2 o3 os
def last2 : Oper -> Oper -> List Oper -> Oper
 | _, o2, [] => o2
 | _, o2, o3 :: os => last2 o2 o3 os
theorem init2_eq : ∀ (os : List Oper) (o o2 : Oper), init2 o o2 os ++ [pen2 o o2 os, last2 o o2 os] = o :: o2 :: os
 | [], _, _ => rfl
 | o3 :: os, o, o2 => by rw [init2, pen2, last2, List.cons_append, init2_eq os o2 o3]
theorem wpIn_region_last2 {F : Fence} (hF : Wide F) {n : Nat} {id : Nat} {o o2 : Oper} {os : List Oper} {a0 : Act} {w : World} (Vs : List Pr) (hm : P.follows .mixedOrders = true) (hp : plainAll (o :: o2 :: os).toArray = true) (hd : dstsB (o :: o2 :: os).toArray = true) (hb : backB (o :: o2 :: os).toArray = true) (ha : anc2B (o :: o2 :: os).toArray (init2 o o2 os).length = true) (hin : dstIn (o :: o2 :: os).toArray a0.tmps.size = true)
  (hg : (pen2 o o2 os).guard = none) (hg2 : (last2 o o2 os).guard = none) (hyw : waits (o :: o2 :: os).toArray ((init2 o o2 os).length + 1) (init2 o o2 os).length = true)
  (step : AllFrom (fun i o' => ∀ a W, Later w W -> Env (o :: o2 :: os).toArray a0 (Vof Vs) i a W -> StepOk P (o :: o2 :: os).toArray Q o' a W (Vof Vs i)) 0 (init2 o o2 os))
  (fin : ∀ xs W, Later w W -> (∀ j, j < (init2 o o2 os).length -> Vof Vs j (xs j) W) -> (∀ x, keepsB (o :: o2 :: os).toArray (init2 o o2 os).length x = true -> (putL (init2 o o2 os) 0 xs a0).eval x = a0.eval x) -> (∀ j t, j < (init2 o o2 os).length -> dstOf (o :: o2 :: os).toArray j = some t -> (putL (init2 o o2 os) 0 xs a0).eval (.tmp t) = xs j) ->
   LastOk2 P (pen2 o o2 os) (last2 o o2 os) (putL (init2 o o2 os) 0 xs a0) W Q) : (Code.region id (o :: o2 :: os).toArray true).wpIn F n P Q a0 w := by
 have e := init2_eq os o o2
 rw [<- e] at hp hd hb ha hin step fin hyw ⊢
 generalize init2 o o2 os = l at *
 generalize pen2 o o2 os = x at *
 generalize last2 o o2 os = y at *
 have htake : (l ++ [x, y]).toArray.toList.take l.length = l := by simp
 refine wpIn_region_any hm (wpAnyIn_tail2 hF hp hd hb (m := l.length) ha hin (last := x) (y := y) (by simp) (by simp) (by simp) hg2 hyw (Vof Vs) (Vof.st Vs) (fun i o a W hi ho hL he => ?_) (fun xs W hL hx hk hg' => ?_) _ _ _ _ ?_ ?_ ?_ ⟨by simp, fun i j hi _ => ?_, (Later.refl w).drew, fun _ => undef, ?_, fun j hj hl => ?_⟩)
 ·have h := allFrom_get l 0 step i o (by
   rw [List.getElem?_toArray, List.getElem?_append_left hi] at ho
   exact ho)
  rw [Nat.zero_add] at h
  exact h a W hL he
 ·rw [htake] at hk hg' ⊢
  exact ⟨by unfold Region.wanted; rw [hg], (fin xs W hL hx hk hg').run⟩
 ·simp
 ·simp [Array.getD]
 ·simp [Array.getD]
 ·exfalso
  simp [Array.getD] at hi
 ·have : ∀ k, laid (l ++ [x, y]).toArray a0 (Array.replicate (l ++ [x, y]).toArray.size false) (fun _ => undef) k = a0 := fun k => by
   induction k with
   | zero => rfl
   | succ k ih => rw [laid, if_neg (by simp [Array.getD]), ih]
  exact (this _).symm
 ·exfalso
  simp [Array.getD] at hl
theorem op_assignK {o : Oper} {a : Act} {W : World} {K : Act -> World -> Prop} {x : Operand} (ho : o.op = .assign x) (h : K (a.put o.dst (a.eval x)) W) : o.wp P a W K Q := by
 unfold Oper.wp execOp
 simp only [ho, Sem.run_pure, Oper.upon]
 exact h
theorem op_append_bytes {o : Oper} {a : Act} {w : World} {K : Act -> World -> Prop} (s x : Operand) (t : TypeId)
  (ho : o.op = .call { callee := .builtin .append, args := #[s, x], argTypes := #[t, t] }) (base : Nat) (U : TypeId) (ht : P.underlying t = some (.slice U)) (hi : ByteInfo P U)
  (v : Value) (l : List UInt8) (hs : a.eval s = v) (hown : Own U w base v l)
  (A : Option Addr) (m c : Nat) (k : List UInt8) (hx : a.eval x = .slice A m c) (hm : k.length = m) (hr : Rd w A k) (hlen : l.length + m <= 140737488355328) (hbase : base <= w.heap.size)
  (h : ∀ v' w', Own U w' base v' (l ++ k) -> w.grownBy w' v.ownBlock -> (v'.ownBlock = v.ownBlock \/ v'.ownBlock = some w.heap.size) -> K (a.put o.dst v') w') : o.wp P a w K Q := by
 obtain ⟨v', w', hr', h2, h3, h4⟩ := run_append_bytes (P := P) w base t o.type U ht hi v l hown A m c k hm hr hlen hbase
 unfold Oper.wp execOp
 simp only [ho, resolve, invoke, builtin, Sem.run_bind, Sem.run_pure, Result.andThen_ok, List.map_toArray, List.map_cons, List.map_nil, hs, hx, hr']
 exact h v' w' h2 h3 h4
end
def AbC {β : Type} (C : Nat -> Prop) (J : β -> World -> Prop) : Prop :=
 ∀ s X Y row, J s X -> X.grownBy Y row -> (∀ r, row = some r -> C r) -> J s Y
def SeqC {α : Type} (F : Fence) (n : Nat) (P : Program) (g : Nat) (lb : Array Value) (encs : α -> Array Value) (Kp : World -> World -> Prop) (S Sp : List α -> Prop) (Ok : List α -> α -> Prop) (C : Nat -> Prop) (W : World) : Prop :=
 ∀ (l : Nat) (J Jx : List α -> World -> Prop) (W1 : World), Below W.heap.size W W1 -> AbC C J -> AbC C Jx ->
  (∀ pre x X, J pre X -> Ok pre x -> YieldAt F (n - 1) P l (encs x) X fun e Y => (e = .returned (.bool true) /\ J (pre ++ [x]) Y /\ Kp X Y) \/ (e = .returned (.bool false) /\ Jx (pre ++ [x]) Y)) ->
  J [] W1 -> CallsIn F n P g (#[.func (.yield l) #[] #[]] ++ lb) W1 fun e Y => (∃ v, e = .returned v) /\ ((∃ xs, S xs /\ J xs Y) \/ ∃ pre, Sp pre /\ Jx pre Y)
def Stab {β : Type} (B : Nat) (C : Nat -> Prop) (I : β -> World -> Prop) : Prop :=
 ∀ s X Y row, I s X -> X.grownBy Y row -> (∀ r, row = some r -> C r \/ (B <= r /\ ∃ o : Obj, X.heap[r]? = some o /\ o.isCells = false)) -> I s Y
theorem Stab.alloc {β : Type} {B : Nat} {C : Nat -> Prop} {I : β -> World -> Prop} (h : Stab B C I) {s : β} {X : World} (o : Obj) (hs : I s X) : I s (X.alloc o) :=
 h s X _ none hs (World.grownBy_alloc X o none) (fun r e => by cases e)
theorem Stab.put {β : Type} {B : Nat} {C : Nat -> Prop} {I : β -> World -> Prop} (h : Stab B C I) {s : β} {X : World} {l : Nat} {o : Obj} (o' : Obj) (hs : I s X) (hB : B <= l) (hl : X.heap[l]? = some o) (ho : o.isCells = false) : I s (X.putObj l o') :=
 h s X _ (some l) hs (grownBy_putObj' X l o') (fun r e => by cases e; exact .inr ⟨hB, o, hl, ho⟩)
theorem Stab.abC {β : Type} {B : Nat} {C : Nat -> Prop} {I : β -> World -> Prop} (h : Stab B C I) : AbC C I := fun s X Y row hs hg hr => h s X Y row hs hg (fun r e => .inl (hr r e))
theorem Stab.and {β : Type} {B : Nat} {C : Nat -> Prop} {I I' : β -> World -> Prop} (h : Stab B C I) (h' : Stab B C I') : Stab B C (fun s W => I s W /\ I' s W) := fun s X Y row hs hg hr => ⟨h s X Y row hs.1 hg hr, h' s X Y row hs.2 hg hr⟩
theorem stab_false {β : Type} (B : Nat) (C : Nat -> Prop) : Stab B C (fun (_ : β) (_ : World) => False) := fun _ _ _ _ hs _ _ => hs
theorem stab_block {β : Type} {B b : Nat} {C : Nat -> Prop} (hC : ¬ C b) (f : β -> Array Value) (t : TypeId) : Stab B C (fun s W => W.heap[b]? = some (.cells (f s) t (0, 0))) := fun s X Y row hs hg hr =>
 (hg.block b (Array.getElem?_eq_some_iff.1 hs).1 (fun e => by
  rcases hr b e.symm with h | ⟨_, o, ho, hc⟩
  ·exact hC h
  ·rw [show X.heap[b]? = _ from hs] at ho; cases ho; cases hc)).trans hs
theorem stab_below {β : Type} {B n₀ : Nat} {C : Nat -> Prop} {w₀ : World} (hn : n₀ <= w₀.heap.size) (hB : n₀ <= B) (hC : ∀ r, C r -> n₀ <= r) : Stab B C (fun (_ : β) W => Below n₀ w₀ W) := fun _ X Y row hs hg hr =>
 hs.grown hg (Nat.le_trans hn hs.size) (fun k e => by
  rcases hr k e with h | ⟨h, _⟩
  ·exact hC k h
  ·omega)
theorem wpIn_scope_wide {n : Nat} {P : Program} {c : Code} {Q : Exit -> Act -> World -> Prop} {a : Act} {w : World} (h : c.wpIn Fence.wide n P (Exit.noGoto Q) a w) : (Code.scope c).wpIn Fence.wide n P Q a w :=
 wpIn_wide.2 (wp_scope_straight (wpIn_wide.1 h))
section
variable {F : Fence} {n : Nat} {P : Program}
def leftC {α : Type} (B : Nat) (Kp : World -> World -> Prop) (I : List α -> World -> Prop) (Ix : Code -> List α -> World -> Prop) (xs : List α) (W : World) : Exit -> Act -> World -> Prop
 | .normal, _, Y => KeepsFrom B W Y /\ Kp W Y /\ I xs Y
 | .ret, _, Y => KeepsFrom B W Y /\ Ix .ret xs Y
 | .exit id, _, Y => KeepsFrom B W Y /\ Ix (.exit id) xs Y
 | .goto t, _, Y => KeepsFrom B W Y /\ Ix (.goto t) xs Y
 | .panic _, _, _ => False
 | .outgrown, _, _ => False
def bookOf (fn : FuncId) (tmps : Array Value) (ps : Array Tmp) (assign body : Code) (D : Nat) (st : LoopState) (pe : Option Code) : Loop :=
 {state := st, pending := pe, fn := fn, tmps := tmps, params := ps, assign := assign, body := body, defers := D }
structure Booked (mk : LoopState -> Option Code -> Loop) (D : Nat) (st : LoopState) (pe : Option Code) (W : World) : Prop where
 loop : W.heap[D + 1]? = some (.loop (mk st pe))
 defs : W.heap[D]? = some (.deferred (some []))
theorem Booked.keeps {mk : LoopState -> Option Code -> Loop} {D : Nat} {st : LoopState} {pe : Option Code} {X Y : World} (h : Booked mk D st pe X) (hk : KeepsFrom D X Y) : Booked mk D st pe Y :=
 ⟨hk.same _ _ (by omega) h.loop rfl, hk.same _ _ (Nat.le_refl _) h.defs rfl⟩
theorem Booked.grown {mk : LoopState -> Option Code -> Loop} {D : Nat} {st : LoopState} {pe : Option Code} {X Y : World} {row : Option Nat} (h : Booked mk D st pe X) (hg : X.grownBy Y row) (hr : ∀ r, row = some r -> r < D) : Booked mk D st pe Y := by
 refine ⟨(hg.block _ (Array.getElem?_eq_some_iff.1 h.loop).1 (fun e => ?_)).trans h.loop, (hg.block _ (Array.getElem?_eq_some_iff.1 h.defs).1 (fun e => ?_)).trans h.defs⟩
 ·have := hr _ e.symm; omega
 ·have := hr _ e.symm; omega
theorem Booked.turn {mk : LoopState -> Option Code -> Loop} {D : Nat} {st st' : LoopState} {pe pe' : Option Code} {X : World} (h : Booked mk D st pe X) : Booked mk D st' pe' (X.putObj (D + 1) (.loop (mk st' pe'))) :=
 ⟨World.putObj_heap_same (Array.getElem?_eq_some_iff.1 h.loop).1, (World.putObj_heap_other (by omega)).trans h.defs⟩
theorem wpIn_range_C {α : Type} {g : Operand} {ps : Array Tmp} {assign body : Code} {Q : Exit -> Act -> World -> Prop} {a : Act} {w : World}
  (hro : F.round = none) (h1 : 1 <= n) {gf : Nat} {lb : Array Value} (hg : a.eval g = .func (.func gf) #[] lb) (hFg : F.fn gf) (eg : ∀ args w, (callFunc gf args).run P w = .ok (.enter gf args) w)
  {encs : α -> Array Value} {Kp : World -> World -> Prop} {S Sp : List α -> Prop} {Ok : List α -> α -> Prop} {C : Nat -> Prop} {w0 : World} (hseq : SeqC F (n - 1) P gf lb encs Kp S Sp Ok C w0)
  (hC : ∀ r, C r -> r < w.heap.size) (hKt : ∀ {A B D : World}, Kp A B -> Kp B D -> Kp A D) (hKb : ∀ (W : World) (l : Nat) (o : Obj), w.heap.size <= l -> Kp W (W.putObj l o)) (hb0 : Below w0.heap.size w0 w) (hps : ∀ x, (encs x).size = ps.size)
  (I : List α -> World -> Prop) (Ix : Code -> List α -> World -> Prop) (hI : Stab w.heap.size C I) (hIx : ∀ c, Stab w.heap.size C (Ix c)) (h0 : I [] w)
  (Ax : List α -> α -> Act -> World -> Prop) (hAx : ∀ pre x a', Stab w.heap.size C (fun (_ : Unit) W => Ax pre x a' W))
  (hassign : ∀ (l : Nat) (pre : List α) (x : α) (W : World) (K : Act -> World -> Prop), I pre W -> Ok pre x -> (∀ a' Y, KeepsFrom w.heap.size W Y -> Kp W Y -> I pre Y -> Ax pre x a' Y -> K a' Y) ->
   assign.wpIn (F.inRound l) (n - 1 - 1) P (Exit.then K (fun _ _ _ => False)) { tmps := (ps.zip (encs x)).foldl (fun t (p, v) => t.setIfInBounds p v) a.tmps, defers := [] } W)
  (hbody : ∀ (l : Nat) (pre : List α) (x : α) (a' : Act) (W : World), w.heap.size <= l -> (∃ r, W.heap[l]? = some (.loop r)) -> I pre W -> Ok pre x -> Ax pre x a' W -> body.wpIn (F.inRound l) (n - 1 - 1) P (leftC w.heap.size Kp I Ix (pre ++ [x]) W) a' W)
  (hdone : ∀ (D : Nat) (xs : List α) (W : World), w.heap.size <= D -> S xs -> I xs W -> W.heap[D]? = some (.deferred (some [])) -> Q .normal { a with defers := { target := .collected D, args := #[] } :: a.defers } W)
  (hstop : ∀ (D : Nat) (c : Code) (pre : List α) (W : World), w.heap.size <= D -> Sp pre -> Ix c pre W -> W.heap[D]? = some (.deferred (some [])) -> c.wpIn F n P Q { a with defers := { target := .collected D, args := #[] } :: a.defers } W) :
  (Code.rangeFunc g ps assign body).wpIn F n P Q a w := by
 refine wpIn_rangeFunc fun fn hfn => ?_
 rw [hro]
 have book1 : Booked (bookOf fn a.tmps ps assign body w.heap.size) w.heap.size .ready none ((w.alloc (.deferred (some []))).alloc (.loop (bookOf fn a.tmps ps assign body w.heap.size .ready none))) := by
  refine ⟨?_, (Below.heap_alloc _ _ _ (by simp)).trans (World.alloc_heap_new w _)⟩
  have := World.alloc_heap_new (w.alloc (.deferred (some []))) (.loop (bookOf fn a.tmps ps assign body w.heap.size .ready none))
  rwa [World.size_alloc] at this
 have hb1 : Below w0.heap.size w0 ((w.alloc (.deferred (some []))).alloc (.loop (bookOf fn a.tmps ps assign body w.heap.size .ready none))) :=
  hb0.trans ((((Below.refl _ w).alloc (Nat.le_refl _) _).alloc (by simp) _).mono hb0.size)
 have hi1 := hI.alloc (.loop (bookOf fn a.tmps ps assign body w.heap.size .ready none)) (hI.alloc (.deferred (some [])) h0)
 have henter := run_enterLoop_outer (P := P) (w := w) fn a.tmps ps assign body
 generalize hW1 : (w.alloc (.deferred (some []))).alloc (.loop (bookOf fn a.tmps ps assign body w.heap.size .ready none)) = W1 at book1 hb1 hi1
 refine ⟨w.heap.size + 1, [{ target := .collected w.heap.size, args := #[] }], W1, { target := .fn (.func gf) lb, args := #[.func (.yield (w.heap.size + 1)) #[] #[]] }, W1, gf,
  #[.func (.yield (w.heap.size + 1)) #[] #[]] ++ lb, W1, ?_, ?_, ?_, ?_, fun _ => h1, ?_⟩
 ·rw [<- hW1]; exact henter
 ·simp only [resolve, hg]; simp [go_sem]
 ·intro f' hf'; simp [Target.leads] at hf'; subst hf'; exact hFg
 ·simp [invoke, go_sem, eg]
 clear henter hW1
 refine (hseq (w.heap.size + 1) (fun pre W => I pre W /\ Booked (bookOf fn a.tmps ps assign body w.heap.size) w.heap.size .ready none W)
  (fun pre W => ∃ c, Ix c pre W /\ Booked (bookOf fn a.tmps ps assign body w.heap.size) w.heap.size .done (some c) W) W1 hb1
  (fun s X Y row hs hgr hr => ⟨hI.abC s X Y row hs.1 hgr hr, hs.2.grown hgr (fun r e => hC r (hr r e))⟩)
  (fun s X Y row hs hgr hr => by obtain ⟨c, hc, hk⟩ := hs; exact ⟨c, (hIx c).abC s X Y row hc hgr hr, hk.grown hgr (fun r e => hC r (hr r e))⟩)
  (fun pre x X hX hok => ?_) ⟨hi1, book1⟩).mono ?_
 ·obtain ⟨hi, hbk⟩ := hX
  refine ⟨fn, _, assign, body, run_yield (P := P) (args := encs x) hbk.loop (hps x), roundIn_of_wpIn hfn (hassign _ pre x X _ hi hok ?_)⟩
  intro a' Y hkf hkp hiY hax
  have hbY := hbk.keeps hkf
  refine ⟨_, run_beginRound hbY.loop rfl, ?_⟩
  have hbZ : Booked (bookOf fn a.tmps ps assign body w.heap.size) w.heap.size .busy none (Y.putObj (w.heap.size + 1) (.loop { bookOf fn a.tmps ps assign body w.heap.size .ready none with state := .busy })) := hbY.turn
  refine wpIn_mono (hbody _ pre x a' _ (by omega) ⟨_, hbZ.loop⟩ (hI.put _ hiY (by omega) hbY.loop rfl) hok ((hAx pre x a').put (s := ()) _ hax (by omega) hbY.loop rfl)) ?_
  have fin : ∀ (jump : Option Code) (Z : World), KeepsFrom w.heap.size (Y.putObj (w.heap.size + 1) (.loop { bookOf fn a.tmps ps assign body w.heap.size .ready none with state := .busy })) Z ->
    (Instr.endRound (w.heap.size + 1) jump).run P Z = .ok (.bool jump.isNone) (Z.putObj (w.heap.size + 1) (.loop (bookOf fn a.tmps ps assign body w.heap.size (if jump.isNone then .ready else .done) jump))) /\
    Booked (bookOf fn a.tmps ps assign body w.heap.size) w.heap.size .busy none Z := fun jump Z hkZ =>
   ⟨run_endRound (P := P) jump (hbZ.keeps hkZ).loop, hbZ.keeps hkZ⟩
  rintro e a3 Z hp
  cases e with
  | normal =>
   obtain ⟨hk3, hkp3, hi3⟩ := hp
   obtain ⟨hr, hb3⟩ := fin none Z hk3
   exact ⟨_, _, hr, .inl ⟨rfl, ⟨hI.put _ hi3 (by omega) hb3.loop rfl, hb3.turn⟩, hKt hkp (hKt (hKt (hKb _ _ _ (by omega)) hkp3) (hKb _ _ _ (by omega)))⟩⟩
  | ret =>
   obtain ⟨hk3, hi3⟩ := hp
   obtain ⟨hr, hb3⟩ := fin (some .ret) Z hk3
   exact ⟨_, _, hr, .inr ⟨rfl, .ret, (hIx _).put _ hi3 (by omega) hb3.loop rfl, hb3.turn⟩⟩
  | exit id =>
   obtain ⟨hk3, hi3⟩ := hp
   obtain ⟨hr, hb3⟩ := fin (some (.exit id)) Z hk3
   exact ⟨_, _, hr, .inr ⟨rfl, .exit id, (hIx _).put _ hi3 (by omega) hb3.loop rfl, hb3.turn⟩⟩
  | goto t =>
   obtain ⟨hk3, hi3⟩ := hp
   obtain ⟨hr, hb3⟩ := fin (some (.goto t)) Z hk3
   exact ⟨_, _, hr, .inr ⟨rfl, .goto t, (hIx _).put _ hi3 (by omega) hb3.loop rfl, hb3.turn⟩⟩
  | panic ch => exact hp.elim
  | outgrown => exact hp.elim
 ·rintro e W2 ⟨⟨v, rfl⟩, (⟨xs, hS, hi, hbk⟩ | ⟨pre, hSp, c, hi, hbk⟩)⟩
  ·exact ⟨none, _, run_endLoop (P := P) hbk.loop (by simp [bookOf]), hdone _ xs _ (Nat.le_refl _) hS (hI.put _ hi (by omega) hbk.loop rfl) ((World.putObj_heap_other (by omega)).trans hbk.defs)⟩
  ·exact ⟨some c, _, run_endLoop (P := P) hbk.loop (by simp [bookOf]), hstop _ c pre _ (Nat.le_refl _) hSp ((hIx c).put _ hi (by omega) hbk.loop rfl) ((World.putObj_heap_other (by omega)).trans hbk.defs)⟩
end
end Go.Proofs.YtloiaaolnfimgaaGreat
namespace Go.Proofs.YtloiaaolnfimgaaGreat
open Go.ChangeShapes Go.WideShapes Go.ChangeAt Go.RowKit
theorem addr_add (b o i : Nat) : (⟨b, o, none⟩ : Addr).add i = ⟨b, o + i, none⟩ := by
 rcases Nat.eq_zero_or_pos i with rfl | hp
 ·rfl
 ·simp [Addr.add, Nat.ne_of_gt hp]
theorem laidOut : laidOutB Tryz.prog = true := by kernel_rfl
theorem ownK : ownKnob Tryz.prog.godebug = none := by kernel_rfl
end Go.Proofs.YtloiaaolnfimgaaGreat
namespace Go.Proofs.YtloiaaolnfimgaaGreat
open Go.RowKit
def eqB (l k : List UInt8) : Bool := decide (l = k)
theorem eqB_true {l k : List UInt8} (h : l = k) : eqB l k = true := decide_eq_true h
theorem eqB_false {l k : List UInt8} (h : l ≠ k) : eqB l k = false := decide_eq_false h
theorem ret_bool {a b : Bool} (h : b = a) : Ending.returned (.bool a) = .returned (.bool b) := by rw [h]
theorem byteInfo : ByteInfo Tryz.prog 5 := by unfold ByteInfo; kernel_rfl
theorem equal_any (A B : Option Addr) (n m ca cb : Nat) (l k : List UInt8) (w : World) (hn : l.length = n) (hm : k.length = m) (hbn : n <= 140737488355328) (hbm : m <= 140737488355328) (hr : Rd w A l) (hr2 : Rd w B k) :
  Calls Tryz.prog 115 #[.slice A n ca, .slice B m cb] w fun e w' => e = .returned (.bool (eqB l k)) /\ Drawn w w' := by
 by_cases hlen : n = m
 ·have HN := Lib.hid hn
  have HM := Lib.hid hm
  subst hlen
  clear hn hm
  have ht : ((n : Int) != (n : Int)) = false := by simp
  go_enter Tryz.func115, Tryz.ntmps115
  go_wp2
  go_loopw [13] (fun t wr => ∃ j : Nat, j <= n /\ t = .int .i64 j /\ l.take j = k.take j /\ Drawn w wr) (fun t _ => n - (intOf t).toNat)
  case atStart => exact ⟨0, by omega, rfl, rfl, Drawn.refl _⟩
  case round =>
   obtain ⟨j, hj, rfl, hp, hd⟩ := hrel
   by_cases hlt : j < n
   ·have hl1 : j < l.length := by rw [HN.out]; exact hlt
    have hl2 : j < k.length := by rw [HM.out]; exact hlt
    obtain ⟨b, o, rfl, hc⟩ := hr.at_ hl1
    obtain ⟨b2, o2, rfl, hc2⟩ := hr2.at_ hl2
    have hc' : wr.cell? ⟨b, o + j, none⟩ = some (.int .u8 (l[j].toNat : Int)) := (hd.cell _).trans hc
    have hc2' : wr.cell? ⟨b2, o2 + j, none⟩ = some (.int .u8 (k[j].toNat : Int)) := (hd.cell _).trans hc2
    have hn1 : l.take (j + 1) = l.take j ++ [l[j]] := List.take_succ_eq_append_getElem hl1
    have hn2 : k.take (j + 1) = k.take j ++ [k[j]] := List.take_succ_eq_append_getElem hl2
    have H1 := Lib.hid hn1
    have H2 := Lib.hid hn2
    have HP := Lib.hid hp
    have HX := Lib.hid (rfl : l[j] = l[j])
    by_cases he : l[j] = k[j]
    ·have H3 : l.take (j + 1) = k.take (j + 1) := by rw [hn1, hn2, hp, he]
     have H3 := Lib.hid H3
     rw [<- he] at hc2'
     clear hn1 hn2 hp he hc hc2 H1 H2 HX
     generalize l[j] = c at *
     have hne : ((c.toNat : Int) != (c.toNat : Int)) = false := by simp
     go_wp2
     go_quiet (fail)
     go_wp2
     go_roundw
     case rel => exact ⟨j + 1, by omega, by go_num, H3.out, hd.drewN _⟩
     case measure => simp [intOf]; omega
    ·have H3 : l ≠ k := by
      intro e
      subst e
      exact he rfl
     have H3 := Lib.hid H3
     have hne : ((l[j].toNat : Int) != (k[j].toNat : Int)) = true := by
      rw [bne_iff_ne]
      intro e
      exact he (UInt8.toNat_inj.1 (by omega))
     clear hn1 hn2 hp he hc hc2 H1 H2 HX
     generalize l[j] = c at *
     generalize k[j] = c2 at *
     go_wp2
     go_quiet (fail)
     go_wp2
     go_ret
     exact ⟨ret_bool (eqB_false H3.out), hd.drewN _⟩
   ·obtain rfl : j = n := by omega
    have H3 : l = k := by
     rw [<- List.take_length (l := l), <- List.take_length (l := k), HN.out, HM.out]; exact hp
    have H3 := Lib.hid H3
    clear hp
    go_wp2
    go_ret
    exact ⟨ret_bool (eqB_true H3.out), hd⟩
 ·have ht : ((n : Int) != (m : Int)) = true := by rw [bne_iff_ne]; omega
  have H3 : l ≠ k := by
   intro e
   subst e
   omega
  have H3 := Lib.hid H3
  clear hn hm hlen
  go_enter Tryz.func115, Tryz.ntmps115
  go_wp2
  go_ret
  exact ⟨ret_bool (eqB_false H3.out), Drawn.refl _⟩
theorem own_empty (w : World) (U : TypeId) (base : Nat) (hb : base <= w.heap.size) : Own U (w.alloc (.cells #[] U)) base (.slice (some ⟨w.heap.size, 0, none⟩) 0 0) [] :=
 ⟨rfl, .inr ⟨_, 0, #[], rfl, hb, heap_alloc_new w _, Nat.le_refl _, Nat.zero_le _, rfl, rfl⟩⟩
theorem clone_any (A : Option Addr) (n ca : Nat) (l : List UInt8) (w : World) (hn : l.length = n) (hbn : n <= 140737488355328) (hr : Rd w A l) :
  Calls Tryz.prog 78 #[.slice A n ca] w fun e w' => ∃ v, e = .returned v /\ Own 5 w' w.heap.size v l /\ Below w.heap.size w w' := by
 have HN := Lib.hid hn
 have hnil := Lib.run_eql_slice_nil (P := Tryz.prog) w 60 5 A n ca 0 0 Tryz.underlying60
 clear hn
 rcases A with _ | ad
 ·have hl : l = [] := by
   rcases l with _ | ⟨x, l⟩
   ·rfl
   ·obtain ⟨b, o, e, _⟩ := hr (by simp)
    cases e
  have HL := Lib.hid hl
  clear hl
  go_enter Tryz.func78, Tryz.ntmps78
  go_wp2
  go_ret
  exact ⟨_, rfl, by rw [HL.out]; exact Own.nil _ _ _, Below.refl _ _⟩
 ·go_enter Tryz.func78, Tryz.ntmps78
  go_wp2_with (first
   | (at_builtin; refine wpList_append_bytes rfl (.tmp 5) (.tmp 6) 60 rfl w.heap.size 5 Tryz.underlying60 byteInfo _ [] rfl (own_empty w _ _ (Nat.le_refl _)) (some ad) n ca l rfl HN.out (hr.alloc _) (by simp; omega) (by simp) ?_; intro v1 w1 hown1 hg1 hat1))
  go_ret
  exact ⟨_, rfl, hown1, ((Below.refl _ _).alloc (Nat.le_refl _) _).grown hg1 (by simp) (fun k hk => Nat.le_of_eq (Option.some.inj hk))⟩
theorem own_grown (w : World) (U : TypeId) (n : Nat) (hn : n <= 140737488355328) :
  Own U (w.drew.alloc (.cells (Builtin.zeroCells #[.int .u8 0] n ++ Builtin.zeroCells #[.int .u8 0] (grownCap w n 0 U - n)) U)) w.heap.size (.slice (some ⟨w.heap.size, 0, none⟩) 0 (grownCap w n 0 U)) [] := by
 refine ⟨rfl, .inr ⟨_, _, _, rfl, Nat.le_refl _, heap_alloc_new w.drew _, Nat.zero_le _, grownCap_le_maxLen w n 0 U (by unfold maxLen; omega), ?_, rfl⟩⟩
 have := grownCap_ge w n 0 U
 simp only [Array.size_append, size_zeroCells, List.size_toArray, List.length_cons, List.length_nil]
 omega
theorem grow_nil (n : Nat) (w : World) (hn : n <= 140737488355328) :
  Calls Tryz.prog 139 #[.slice none 0 0, .int .i64 (n : Int)] w fun e w' => ∃ v, e = .returned v /\ Own 5 w' w.heap.size v [] /\ Below w.heap.size w w' := by
 obtain ⟨i, hi0, hz, hs, hb⟩ := info_parts (byteInfo : ByteInfo _ _)
 by_cases h0 : 0 < n
 ·have hrun := Lib.run_append_nil_zeros (P := Tryz.prog) w 60 3 60 5 i (.int .u8 0) .i64 .i64 Tryz.underlying60 Tryz.underlying3 hi0 hz n h0 (by omega) (by omega) (by rw [hb]; omega)
  have HR := Lib.hid hrun
  clear hrun hi0 hz hs hb
  have hge := grownCap_ge w n 0 5
  go_enter Tryz.func139, Tryz.ntmps139
  go_wp2_with (first
   | (at_builtin; refine Lib.wpList_append_run _ rfl (.tmp 20) (.tmp 21) 60 3 rfl _ _ rfl rfl _ _ HR.out ?_))
  go_ret
  exact ⟨_, rfl, own_grown w _ n hn, (Below.refl _ _).drew.alloc (Nat.le_refl _) _⟩
 ·obtain rfl : n = 0 := by omega
  clear hi0 hz hs hb
  go_enter Tryz.func139, Tryz.ntmps139
  go_wp2
  go_ret
  exact ⟨_, rfl, Own.nil _ _ _, Below.refl _ _⟩
abbrev wordV (x : BitVec 32) : Value := .int .u32 (x.toNat : Int)
abbrev intV (n : Nat) : Value := .int .i64 (n : Int)
theorem bv_or (x y : BitVec 32) : bits .or .u32 (x.toNat : Int) (y.toNat : Int) = ((x ||| y).toNat : Int) := by rw [u32_or_nat _ _ x.isLt y.isLt, BitVec.toNat_or]
theorem bv_and (x y : BitVec 32) : bits .and .u32 (x.toNat : Int) (y.toNat : Int) = ((x &&& y).toNat : Int) := by rw [u32_and_nat _ _ x.isLt y.isLt, BitVec.toNat_and]
theorem bv_xor (x y : BitVec 32) : bits .xor .u32 (x.toNat : Int) (y.toNat : Int) = ((x ^^^ y).toNat : Int) := by rw [u32_xor_nat _ _ x.isLt y.isLt, BitVec.toNat_xor]
theorem bv_add (x y : BitVec 32) : ((x.toNat : Int) + (y.toNat : Int)) % 4294967296 = ((x + y).toNat : Int) := by rw [BitVec.toNat_add]; omega
theorem bv_shl (x : BitVec 32) (k : Nat) : (x.toNat : Int) * 2 ^ k % 4294967296 = ((x <<< k).toNat : Int) := by
 rw [BitVec.toNat_shiftLeft, Nat.shiftLeft_eq, Int.natCast_emod, Int.natCast_mul, Int.natCast_pow]
 rfl
theorem bv_shr (x : BitVec 32) (k : Nat) : (x.toNat : Int) / 2 ^ k = ((x >>> k).toNat : Int) := by
 rw [BitVec.toNat_ushiftRight, Nat.shiftRight_eq_div_pow, Int.natCast_ediv, Int.natCast_pow]
 rfl
theorem ret_u32 {a b : Int} (h : a = b) : Ending.returned (.int .u32 a) = .returned (.int .u32 b) := by rw [h]
theorem load32 {b o : Nat} {x : BitVec 32} {W : World} (hc : W.cell? ⟨b, o, none⟩ = some (.int .u32 (x.toNat : Int))) : (Instr.loadAt 174 (.pointer (some ⟨b, o, none⟩))).run Tryz.prog W = .ok (wordV x) W := by
 go_simp
theorem loadI {b o : Nat} {x : Int} {W : World} (hc : W.cell? ⟨b, o, none⟩ = some (.int .i64 x)) : (Instr.loadAt 3 (.pointer (some ⟨b, o, none⟩))).run Tryz.prog W = .ok (.int .i64 x) W := by
 go_simp
theorem store32 {b o : Nat} {x : BitVec 32} {v : Value} {W : World} (hc : W.cell? ⟨b, o, none⟩ = some v) (hf : W.frozen? ⟨b, o, none⟩ = false) : (Instr.storeAt 174 (.pointer (some ⟨b, o, none⟩)) (wordV x)).run Tryz.prog W = .ok () (W.setCell ⟨b, o, none⟩ (wordV x)) := by
 go_simp
theorem addI {x y : Int} {W : World} (h1 : -9223372036854775808 <= x + y) (h2 : x + y <= 9223372036854775807) : (binOp .add 3 (.int .i64 x) (.int .i64 y)).run Tryz.prog W = .ok (.int .i64 (x + y)) W := by
 have e := IntWalk.i64_in (x + y) (by omega)
 have h : (binOp .add 3 (.int .i64 x) (.int .i64 y)).run Tryz.prog W = .ok (.int .i64 (IntKind.i64.wrap (x + y))) W := by kernel_rfl
 rw [h, e]
theorem add32 {x y : BitVec 32} {W : World} : (binOp .add 174 (wordV x) (wordV y)).run Tryz.prog W = .ok (wordV (x + y)) W := by
 have h : (binOp .add 174 (wordV x) (wordV y)).run Tryz.prog W = .ok (.int .u32 (IntKind.u32.wrap ((x.toNat : Int) + (y.toNat : Int)))) W := by kernel_rfl
 rw [h, IntKind.wrap_u32', bv_add]
theorem xor32 {x y : BitVec 32} {W : World} : (binOp .xor 174 (wordV x) (wordV y)).run Tryz.prog W = .ok (wordV (x ^^^ y)) W := by
 have h : (binOp .xor 174 (wordV x) (wordV y)).run Tryz.prog W = .ok (.int .u32 (bits .xor .u32 (x.toNat : Int) (y.toNat : Int))) W := by kernel_rfl
 rw [h, bv_xor]
theorem and32 {x y : BitVec 32} {W : World} : (binOp .and 174 (wordV x) (wordV y)).run Tryz.prog W = .ok (wordV (x &&& y)) W := by
 have h : (binOp .and 174 (wordV x) (wordV y)).run Tryz.prog W = .ok (.int .u32 (bits .and .u32 (x.toNat : Int) (y.toNat : Int))) W := by kernel_rfl
 rw [h, bv_and]
theorem or32 {x y : BitVec 32} {W : World} : (binOp .or 174 (wordV x) (wordV y)).run Tryz.prog W = .ok (wordV (x ||| y)) W := by
 have h : (binOp .or 174 (wordV x) (wordV y)).run Tryz.prog W = .ok (.int .u32 (bits .or .u32 (x.toNat : Int) (y.toNat : Int))) W := by kernel_rfl
 rw [h, bv_or]
theorem remI {x y : Nat} {W : World} (h0 : 0 < y) (hx : x < 9223372036854775808) (hy : y < 9223372036854775808) : (binOp .rem 3 (.int .i64 (x : Int)) (.int .i64 (y : Int))).run Tryz.prog W = .ok (.int .i64 ((x % y : Nat) : Int)) W := by
 have hne : ((y : Int) == 0) = false := by rw [beq_eq_false_iff_ne]; omega
 have e : ((x : Int).tmod (y : Int)) = ((x % y : Nat) : Int) := by rw [Int.tmod_eq_emod_of_nonneg (by omega)]; rfl
 go_simp
 omega
theorem eqg_add {T : TypeId} {x y : Operand} {vx vy : Value} {P : Program} {W : World} : (eqGuard .add T x y vx vy).run P W = .ok () W := rfl
theorem eqg_xor {T : TypeId} {x y : Operand} {vx vy : Value} {P : Program} {W : World} : (eqGuard .xor T x y vx vy).run P W = .ok () W := rfl
theorem eqg_and {T : TypeId} {x y : Operand} {vx vy : Value} {P : Program} {W : World} : (eqGuard .and T x y vx vy).run P W = .ok () W := rfl
theorem eqg_or {T : TypeId} {x y : Operand} {vx vy : Value} {P : Program} {W : World} : (eqGuard .or T x y vx vy).run P W = .ok () W := rfl
theorem eqg_rem {T : TypeId} {x y : Operand} {vx vy : Value} {P : Program} {W : World} : (eqGuard .rem T x y vx vy).run P W = .ok () W := rfl
section
variable {P : Program} {Q : Exit -> Act -> World -> Prop} {o : Oper} {a : Act} {W : World} {R : Value -> World -> Prop}
theorem op_nil {x : Operand} {ad : Addr} (ho : o.op = .nilCheck x) (hx : a.eval x = .pointer (some ad)) (h : R (.pointer (some ad)) W) : o.wp P a W (fun a' W' => ∃ v, a' = a.put o.dst v /\ Later W W' /\ R v W') Q := by
 refine op_value (v := .pointer (some ad)) (W' := W) ?_ (Later.refl _) h
 unfold execOp
 simp only [ho, hx, Sem.run_pure]
theorem op_idx {t : TypeId} {x y : Operand} {vx vy v : Value} (ho : o.op = .indexAddr t x y) (hx : a.eval x = vx) (hy : a.eval y = vy) (hr : (Instr.indexAt t vx vy).run P W = .ok v W) (h : R v W) : o.wp P a W (fun a' W' => ∃ v, a' = a.put o.dst v /\ Later W W' /\ R v W') Q := by
 refine op_value (v := v) (W' := W) ?_ (Later.refl _) h
 unfold execOp
 simp only [ho, hx, hy, hr, Sem.run_bind, Sem.run_pure, Result.andThen_ok]
theorem op_fieldAddr {t : TypeId} {x : Operand} {i : Nat} {vx v : Value} (ho : o.op = .fieldAddr t x i) (hx : a.eval x = vx) (hr : (Instr.fieldAt t vx i).run P W = .ok v W) (h : R v W) : o.wp P a W (fun a' W' => ∃ v, a' = a.put o.dst v /\ Later W W' /\ R v W') Q := by
 refine op_value (v := v) (W' := W) ?_ (Later.refl _) h
 unfold execOp
 simp only [ho, hx, hr, Sem.run_bind, Sem.run_pure, Result.andThen_ok]
end
end Go.Proofs.YtloiaaolnfimgaaGreat
namespace Go.Proofs.YtloiaaolnfimgaaGreat
open Go.RowKit Go.Builtin
theorem run_append_zeros1 {P : Program} (w : World) (g : Nat) (c0 : UInt8) (t tn ty e : TypeId) (kn : IntKind) (ht : P.underlying t = some (.slice e)) (htn : P.underlying tn = some (.int kn)) (hi : ByteInfo P e) (hrow : Row w g e #[byteV c0])
  (n : Nat) (h0 : 0 < n) (hm : n <= 1000000) :
  ∃ cap, 1 + n <= cap /\ cap <= maxLen /\ (Builtin.append_ #[t, tn] ty #[.slice (some ⟨g, 0, none⟩) 1 1, .int kn n]).run P w =
   .ok (.slice (some ⟨w.heap.size, 0, none⟩) (1 + n) cap) (w.drew.alloc (.cells (#[byteV c0] ++ Builtin.zeroCells #[.int .u8 0] n ++ Builtin.zeroCells #[.int .u8 0] (cap - (1 + n))) e)) := by
 obtain ⟨i, hi0, hz, hs, hb⟩ := info_parts hi
 have hn : n ≠ 0 := by omega
 have hw : IntKind.i64.wrap (n : Int) = n := by rw [IntKind.wrap_i64]; omega
 have hc : w.cell? ⟨g, 0, none⟩ = some (byteV c0) := (hrow.cell 0).trans rfl
 have h63' : ¬ (9223372036854775807 < 1 + (n : Int)) := by omega
 have h48i : ¬ (281474976710656 < (n : Int)) := by omega
 have hneg : ¬ ((n : Int) < 0) := by omega
 have hgt : ¬ (1 + n <= 1) := by omega
 refine ⟨grownCap w (1 + n) 1 e, grownCap_ge w _ _ _, grownCap_le_maxLen w _ _ _ (by unfold maxLen; omega), ?_⟩
 have h48' : ¬ (281474976710656 < Builtin.nextslicecap (1 + n) 1) := by
  have := nextslicecap_le (need := 1 + n) (old := 1) (by omega)
  omega
 have hfc : (firstCells 1 1 (.slice (some ⟨g, 0, none⟩) 1 1)).run P w.drew = .ok #[byteV c0] w.drew := by
  refine run_firstCells_some (P := P) w.drew 1 1 ⟨g, 0, none⟩ 1 1 [byteV c0] rfl fun j v hv => ?_
  rcases j with _ | j
  ·simp at hv
   subst hv
   rw [show (⟨g, 0, none⟩ : Addr).add 0 = ⟨g, 0, none⟩ from rfl]
   exact hc
  ·simp at hv
 simp [Builtin.append_, run_underlying ht, run_underlying htn, sizeOf, typeInfo, zeroValue, hi0, hz, hs, hb, asInt, asIntOf, hw, hn, hneg, hgt, h63', h48', h48i, Question.forced, newRow, grownCap, hfc]
 rfl
theorem zeroCells_list (n : Nat) : Builtin.zeroCells #[.int .u8 0] n = ((List.replicate n (0 : UInt8)).map byteV).toArray := by
 apply Array.ext_getElem?
 intro i
 unfold Builtin.zeroCells
 by_cases h : i < n
 ·simp [h, Nat.mod_one]
 ·simp [h]
theorem setRow_setFrom (cur : Array Value) (off : Nat) (cs : List Value) (h : off + cs.length <= cur.size) : (cur.toList.take off ++ (cs ++ cur.toList.drop (off + cs.length))).toArray = setFrom cur off cs := by
 apply Array.ext_getElem?
 intro i
 rw [setFrom_get cs off cur i h, List.getElem?_toArray]
 by_cases h1 : i < off
 ·rw [if_neg (by omega), List.getElem?_append_left (by simp; omega), List.getElem?_take_of_lt h1, Array.getElem?_toList]
 ·rw [List.getElem?_append_right (by simp; omega), List.length_take, show min off cur.toList.length = off from by rw [Array.length_toList]; omega]
  by_cases h2 : i < off + cs.length
  ·rw [if_pos (by omega), List.getElem?_append_left (by omega)]
  ·rw [if_neg (by omega), List.getElem?_append_right (by omega), List.getElem?_drop, Array.getElem?_toList]
   congr 1
   omega
theorem wpList_copy_rd {P : Program} {w : World} {ops : Array Oper} {rest : List Oper} {o : Oper} {a : Act} {Q : Exit -> Act -> World -> Prop} (hgd : o.guard = none) (d s : Operand) (dT sT : TypeId)
  (ho : o.op = .call { callee := .builtin .copy, args := #[d, s], argTypes := #[dT, sT] }) (elem : TypeId) (hu : P.underlying dT = some (.slice elem)) (hsz : (P.info? elem).map (·.size) = some 1)
  (g off dLen dCap : Nat) (A : Option Addr) (n c : Nat) (l : List UInt8) (hl : l.length = n) (hrd : Rd w A l) (hd : a.eval d = .slice (some ⟨g, off, none⟩) dLen dCap) (hs : a.eval s = .slice A n c)
  (cur : Array Value) (t : TypeId) (hg : Row w g t cur) (m : Nat) (hm : min n dLen = m) (hfit : off + m <= cur.size)
  (h : ∀ w', Row w' g t (setFrom cur off ((l.take m).map byteV)) -> w.grownBy w' (some g) -> wpList P ops Q rest (a.put o.dst (.int .i64 (m : Int))) w') : wpList P ops Q (o :: rest) a w := by
 have hcl : ((l.take m).map byteV).length = m := by rw [List.length_map, List.length_take]; omega
 rcases A with _ | ad
 ·have hk : l = [] := by
   rcases l with _ | ⟨x, k⟩
   ·rfl
   ·obtain ⟨b, o, e, _⟩ := hrd (by simp)
    cases e
  subst hk
  subst hl
  have h0 : m = 0 := by simpa using hm.symm
  subst h0
  exact wpList_copy_nothing hgd d s dT sT ho elem hu hsz _ _ _ _ _ _ hd hs (by simp [Nat.min_def]) (h w (by simpa [setFrom] using hg) (grown_refl w _))
 ·refine wpList_copy_own hgd d s dT sT ho elem hu hsz g off dLen dCap ad n c hd hs cur t hg ((l.take m).map byteV) (by rw [hcl]; exact hm.symm) (fun j v hv => ?_) (by rw [hcl]; exact hfit) (fun v hv => by obtain ⟨x, _, rfl⟩ := List.mem_map.1 hv; rfl) ?_
  ·have hj : j < m := by
    rcases Nat.lt_or_ge j m with h | h
    ·exact h
    ·rw [List.getElem?_eq_none (by omega)] at hv; cases hv
   have hjl : j < l.length := by omega
   obtain ⟨b, o, e, hc⟩ := hrd (by intro e; subst e; simp at hjl)
   injection e with e
   subst e
   rw [List.getElem?_map, List.getElem?_take_of_lt hj, List.getElem?_eq_getElem hjl, Option.map_some] at hv
   rw [<- Option.some.inj hv, <- hc j hjl]
   rcases Nat.eq_zero_or_pos j with rfl | hp
   ·rfl
   ·simp [Addr.add, Nat.ne_of_gt hp]
  ·rw [setRow_setFrom _ _ _ (by rw [hcl]; exact hfit), show goInt ((l.take m).map byteV).length = .int .i64 (m : Int) from by rw [hcl]; rfl]
   exact h _ (setRow_heap w g _ _ t _ hg) ⟨rfl, rfl, rfl, by simp [World.setRow], fun k hk hn => setRow_other w g k _ (fun e => hn (by rw [e]))⟩
theorem op_copy_rd {P : Program} {w : World} {o : Oper} {a : Act} {K : Act -> World -> Prop} {Q : Exit -> Act -> World -> Prop} (d s : Operand) (dT sT : TypeId)
  (ho : o.op = .call { callee := .builtin .copy, args := #[d, s], argTypes := #[dT, sT] }) (elem : TypeId) (hu : P.underlying dT = some (.slice elem)) (hsz : (P.info? elem).map (·.size) = some 1)
  (g off dLen dCap : Nat) (A : Option Addr) (n c : Nat) (l : List UInt8) (hl : l.length = n) (hrd : Rd w A l) (hd : a.eval d = .slice (some ⟨g, off, none⟩) dLen dCap) (hs : a.eval s = .slice A n c)
  (cur : Array Value) (t : TypeId) (hg : Row w g t cur) (m : Nat) (hm : min n dLen = m) (hfit : off + m <= cur.size)
  (h : ∀ w', Row w' g t (setFrom cur off ((l.take m).map byteV)) -> w.grownBy w' (some g) -> K (a.put o.dst (.int .i64 (m : Int))) w') : o.wp P a w K Q := by
 have hcl : ((l.take m).map byteV).length = m := by rw [List.length_map, List.length_take]; omega
 rcases A with _ | ad
 ·have hk : l = [] := by
   rcases l with _ | ⟨x, k⟩
   ·rfl
   ·obtain ⟨b, o, e, _⟩ := hrd (by simp)
    cases e
  subst hk
  subst hl
  have h0 : m = 0 := by simpa using hm.symm
  subst h0
  have hrun := run_copy_none (P := P) w dT sT o.type elem (some ⟨g, off, none⟩) none dLen dCap ([] : List UInt8).length c hu hsz (by simp [Nat.min_def])
  unfold Oper.wp
  simp only [execOp, ho, resolve, invoke, builtin, hd, hs, hrun, Sem.run_bind, Sem.run_pure, Result.andThen_ok, List.map_toArray, List.map_cons, List.map_nil]
  exact h w (by simpa [setFrom] using hg) (grown_refl w _)
 ·have hrun := run_copy_row (P := P) w dT sT o.type elem g off dLen dCap ad n c cur t ((l.take m).map byteV) hu hsz hg (by rw [hcl]; exact hm.symm) (fun j v hv => by
   have hj : j < m := by
    rcases Nat.lt_or_ge j m with h | h
    ·exact h
    ·rw [List.getElem?_eq_none (by omega)] at hv; cases hv
   have hjl : j < l.length := by omega
   obtain ⟨b, o, e, hc⟩ := hrd (by intro e; subst e; simp at hjl)
   injection e with e
   subst e
   rw [List.getElem?_map, List.getElem?_take_of_lt hj, List.getElem?_eq_getElem hjl, Option.map_some] at hv
   rw [<- Option.some.inj hv, <- hc j hjl]
   rcases Nat.eq_zero_or_pos j with rfl | hp
   ·rfl
   ·simp [Addr.add, Nat.ne_of_gt hp]) (by rw [hcl]; exact hfit) (fun v hv => by obtain ⟨x, _, rfl⟩ := List.mem_map.1 hv; rfl)
  rw [List.append_assoc, setRow_setFrom _ _ _ (by rw [hcl]; exact hfit), show goInt ((l.take m).map byteV).length = .int .i64 (m : Int) from by rw [hcl]; rfl] at hrun
  unfold Oper.wp
  simp only [execOp, ho, resolve, invoke, builtin, hd, hs, hrun, Sem.run_bind, Sem.run_pure, Result.andThen_ok, List.map_toArray, List.map_cons, List.map_nil]
  exact h _ (setRow_heap w g _ _ t _ hg) ⟨rfl, rfl, rfl, by simp [World.setRow], fun k hk hn => setRow_other w g k _ (fun e => hn (by rw [e]))⟩
theorem append_z {P : Program} (w : World) (g : Nat) (c0 : UInt8) (t tn ty e : TypeId) (kn : IntKind) (ht : P.underlying t = some (.slice e)) (htn : P.underlying tn = some (.int kn)) (hi : ByteInfo P e) (hrow : Row w g e #[byteV c0])
  (n : Nat) (hm : n <= 1000000) :
  ∃ ad c w', (Builtin.append_ #[t, tn] ty #[.slice (some ⟨g, 0, none⟩) 1 1, .int kn n]).run P w = .ok (.slice (some ad) (1 + n) c) w' /\ Rd w' (some ad) (c0 :: List.replicate n (0 : UInt8)) /\ 1 + n <= c /\ c <= maxLen /\ Later w w' /\ (ad.block = g \/ ad.block = w.heap.size) := by
 obtain ⟨i, hi0, hz, hs, hb⟩ := info_parts hi
 rcases Nat.eq_zero_or_pos n with rfl | h0
 ·refine ⟨⟨g, 0, none⟩, 1, w, ?_, ?_, by omega, by unfold maxLen; omega, Later.refl w, .inl rfl⟩
  ·have hw : IntKind.i64.wrap (((0 : Nat) : Int)) = 0 := by decide
   simp [Builtin.append_, run_underlying ht, run_underlying htn, sizeOf, typeInfo, zeroValue, hi0, hz, hs, hb, asInt, asIntOf, storeCells]
   rfl
  ·exact fun _ => ⟨g, 0, rfl, fun i hi' => by
    rw [hrow.cell]
    have : i = 0 := by simpa using hi'
    subst this
    rfl⟩
 ·obtain ⟨cap, hcap, hcm, hrun⟩ := run_append_zeros1 w g c0 t tn ty e kn ht htn hi hrow n h0 hm
  refine ⟨_, _, _, hrun, ?_, hcap, hcm, ((Later.refl w).drew).alloc _, .inr rfl⟩
  rw [zeroCells_list, zeroCells_list]
  have e : #[byteV c0] ++ ((List.replicate n (0 : UInt8)).map byteV).toArray ++ ((List.replicate (cap - (1 + n)) (0 : UInt8)).map byteV).toArray = ((c0 :: List.replicate n (0 : UInt8)).map byteV ++ (List.replicate (cap - (1 + n)) (0 : UInt8)).map byteV).toArray := by simp
  rw [e]
  refine fun _ => ⟨w.heap.size, 0, rfl, fun i hi' => ?_⟩
  rw [show w.heap.size = w.drew.heap.size from rfl, (Row.new w.drew _ _).cell, Nat.zero_add, List.getElem?_toArray, List.getElem?_append_left (by simpa using hi'), List.getElem?_map, List.getElem?_eq_getElem hi']
  rfl
end Go.Proofs.YtloiaaolnfimgaaGreat
namespace Go.Proofs.YtloiaaolnfimgaaGreat.Crc
def poly : BitVec 32 := 0x82f63b78#32
def step (x : BitVec 32) : BitVec 32 := (x >>> 1) ^^^ (if x.getLsbD 0 then poly else 0#32)
def steps : Nat -> BitVec 32 -> BitVec 32
 | 0, x => x
 | n + 1, x => step (steps n x)
def zx (c : UInt8) : BitVec 32 := BitVec.setWidth 32 c.toBitVec
def byteOn (w : BitVec 32) (c : UInt8) : BitVec 32 := steps 8 (w ^^^ zx c)
def run (w : BitVec 32) (l : List UInt8) : BitVec 32 := l.foldl byteOn w
def more (s : BitVec 32) (l : List UInt8) : BitVec 32 := ~~~ (run (~~~ s) l)
def sum (l : List UInt8) : BitVec 32 := more 0#32 l
def tab (i : Nat) : BitVec 32 := steps 8 (BitVec.ofNat 32 i)
theorem step_xor (x y : BitVec 32) : step (x ^^^ y) = step x ^^^ step y := by
 unfold step
 rw [BitVec.ushiftRight_xor_distrib, BitVec.getLsbD_xor]
 cases x.getLsbD 0 <;> cases y.getLsbD 0 <;> simp
 ·rw [BitVec.xor_assoc]
 ·rw [BitVec.xor_assoc, BitVec.xor_assoc, BitVec.xor_comm poly]
 ·rw [BitVec.xor_assoc, <- BitVec.xor_assoc poly, BitVec.xor_comm poly, BitVec.xor_assoc (y >>> 1), BitVec.xor_self]; simp
theorem steps_xor (n : Nat) (x y : BitVec 32) : steps n (x ^^^ y) = steps n x ^^^ steps n y := by
 induction n with
 | zero => rfl
 | succ n ih => simp only [steps, ih, step_xor]
theorem steps_low (n : Nat) (x : BitVec 32) (h : ∀ i, i < n -> x.getLsbD i = false) : steps n x = x >>> n := by
 induction n with
 | zero => simp [steps]
 | succ n ih =>
  have e := ih (fun i hi => h i (by omega))
  simp only [steps, e]
  unfold step
  have h0 : (x >>> n).getLsbD 0 = false := by rw [BitVec.getLsbD_ushiftRight]; simpa using h n (by omega)
  rw [h0]
  simp only [Bool.false_eq_true, if_false, BitVec.xor_zero]
  rw [BitVec.shiftRight_add]
theorem mask_split (y : BitVec 32) : (y &&& 0xff#32) ^^^ (y &&& 0xffffff00#32) = y := by
 have h : y = y &&& (0xff#32 ^^^ 0xffffff00#32) := by
  have : (0xff#32 ^^^ 0xffffff00#32) = BitVec.allOnes 32 := by decide
  rw [this, BitVec.and_allOnes]
 conv => rhs; rw [h]
 ext i
 simp only [BitVec.getElem_xor, BitVec.getElem_and]
 cases y[i] <;> simp
theorem table_step (r : BitVec 32) (c : UInt8) : (r >>> 8) ^^^ steps 8 ((r ^^^ zx c) &&& 0xff#32) = byteOn r c := by
 unfold byteOn
 have h := mask_split (r ^^^ zx c)
 conv => rhs; rw [<- h, steps_xor]
 rw [BitVec.xor_comm]
 congr 1
 rw [steps_low]
 ·apply BitVec.eq_of_getLsbD_eq
  intro i hi
  simp only [BitVec.getLsbD_ushiftRight, BitVec.getLsbD_and, BitVec.getLsbD_xor, zx, BitVec.getLsbD_setWidth]
  by_cases h24 : i < 24
  ·have hm : (0xffffff00#32).getLsbD (8 + i) = true := by
    have : ∀ j : Fin 24, (0xffffff00#32).getLsbD (8 + j.val) = true := by decide
    exact this ⟨i, h24⟩
   have hc : c.toBitVec.getLsbD (8 + i) = false := BitVec.getLsbD_of_ge _ _ (by omega)
   rw [hm, hc]; simp
  ·have h1 : r.getLsbD (8 + i) = false := BitVec.getLsbD_of_ge _ _ (by omega)
   have hc : c.toBitVec.getLsbD (8 + i) = false := BitVec.getLsbD_of_ge _ _ (by omega)
   rw [h1, hc]; simp
 ·intro i hi
  have hm : (0xffffff00#32).getLsbD i = false := by
   have : ∀ j : Fin 8, (0xffffff00#32).getLsbD j.val = false := by decide
   exact this ⟨i, hi⟩
  simp [BitVec.getLsbD_and, hm]
theorem run_append (w : BitVec 32) (a b : List UInt8) : run w (a ++ b) = run (run w a) b := List.foldl_append ..
theorem run_snoc (w : BitVec 32) (a : List UInt8) (c : UInt8) : run w (a ++ [c]) = byteOn (run w a) c := by rw [run_append]; rfl
theorem u32_xor_bv (a b : BitVec 32) : bits .xor .u32 (a.toNat : Int) (b.toNat : Int) = ((a ^^^ b).toNat : Int) := by
 rw [u32_xor_nat _ _ a.isLt b.isLt, BitVec.toNat_xor]
theorem step_val (x : BitVec 32) :
  bits .xor .u32 ((x.toNat : Int) / 2) (bits .and .u32 (x.toNat : Int) 1 * 2197175160 % 4294967296) = ((step x).toNat : Int) := by
 have h1 : (x.toNat : Int) / (2 : Int) = ((x >>> 1).toNat : Int) := by rw [BitVec.toNat_ushiftRight, Nat.shiftRight_eq_div_pow]; omega
 have h2 : bits .and .u32 (x.toNat : Int) 1 * 2197175160 % 4294967296 = ((if x.getLsbD 0 then poly else 0#32).toNat : Int) := by
  rw [show (1 : Int) = ((1 : Nat) : Int) from rfl, u32_and_nat _ _ x.isLt (by decide), nat_mask1]
  have : x.getLsbD 0 = decide (x.toNat % 2 = 1) := by
   simp [BitVec.getLsbD, Nat.testBit_zero]
  rw [this]
  rcases Nat.mod_two_eq_zero_or_one x.toNat with h | h <;> rw [h] <;> decide
 rw [h1, h2, u32_xor_bv]; rfl
theorem take_val (y : BitVec 32) (c : UInt8) (j : Nat) (hj : j = (y.toNat % 256) ^^^ c.toNat) :
  bits .xor .u32 ((y.toNat : Int) / 256) ((tab j).toNat : Int) = ((byteOn y c).toNat : Int) := by
 have h1 : (y.toNat : Int) / (256 : Int) = ((y >>> 8).toNat : Int) := by rw [BitVec.toNat_ushiftRight, Nat.shiftRight_eq_div_pow]; omega
 have h2 : tab j = steps 8 ((y ^^^ zx c) &&& 0xff#32) := by
  unfold tab
  congr 1
  apply BitVec.eq_of_toNat_eq
  have hc : c.toNat < 256 := c.toNat_lt
  have hz : (zx c).toNat = c.toNat := by
   unfold zx
   rw [BitVec.toNat_setWidth]
   exact Nat.mod_eq_of_lt (by show c.toNat < _; omega)
  have hjl : j < 256 := by rw [hj]; exact Nat.xor_lt_two_pow (n := 8) (by omega) hc
  rw [BitVec.toNat_ofNat, Nat.mod_eq_of_lt (by omega), BitVec.toNat_and, BitVec.toNat_xor, hz, hj]
  show _ = (y.toNat ^^^ c.toNat) &&& 255
  rw [nat_mask8, show (256 : Nat) = 2 ^ 8 from rfl, Nat.xor_mod_two_pow, Nat.mod_eq_of_lt (a := c.toNat) hc]
 rw [h1, h2, u32_xor_bv, table_step]
end Go.Proofs.YtloiaaolnfimgaaGreat.Crc
namespace Go.Proofs.YtloiaaolnfimgaaGreat
open Go.RowKit
def z57 : Array Value := Array.replicate 257 (.int .u32 0)
def z33 : Array Value := Array.replicate 256 (.int .u32 0)
def tabCells : Array Value := (Array.range 256).map fun i => .int .u32 ((Crc.tab i).toNat : Int)
def tabTo (k : Nat) : Array Value := (Array.range 256).map fun i => .int .u32 (if i < k then ((Crc.tab i).toNat : Int) else 0)
def oneTo (x : BitVec 32) : Array Value := z57.setIfInBounds 0 (.int .u32 (x.toNat : Int))
theorem info57 : (Tryz.prog.info? 245).map (·.size) = some 257 := by kernel_rfl
theorem info33 : (Tryz.prog.info? 242).map (·.size) = some 256 := by kernel_rfl
theorem alloc57 (w : World) : (Instr.alloc 245 true (.tuple #[])).run Tryz.prog w = .ok (.pointer (some ⟨w.heap.size, 0, none⟩)) (w.alloc (.cells z57 245)) := by kernel_rfl
theorem alloc33 (w : World) : (Instr.alloc 242 true (.tuple #[])).run Tryz.prog w = .ok (.pointer (some ⟨w.heap.size, 0, none⟩)) (w.alloc (.cells z33 242)) := by kernel_rfl
theorem build57a (w : World) (x : Int) : (Instr.build 245 #[(0, .agg #[.int .u32 x])]).run Tryz.prog w = .ok (.agg (z57.setIfInBounds 0 (.int .u32 x))) w := by kernel_rfl
theorem one57 (x : BitVec 32) : (oneTo x).all (·.oneCell') = true := by kernel_rfl
theorem size57 (x : BitVec 32) : (oneTo x).size = 257 := by simp [oneTo, z57]
theorem step_any (b o : Nat) (x : BitVec 32) (w : World)
  (hc : w.cell? ⟨b, o, none⟩ = some (.int .u32 (x.toNat : Int))) (hf : w.frozen? ⟨b, o, none⟩ = false) :
  Calls Tryz.prog 182 #[.pointer (some ⟨b,o,none⟩)] w fun e w' => e = .returned (.tuple #[]) /\ (w.setCell ⟨b,o,none⟩ (.int .u32 ((Crc.step x).toNat : Int))).drew = w' := by
 have h1 := x.isLt
 go_enter Tryz.func182, Tryz.ntmps182
 go_wp2
 go_region
 go_end0
 exact ⟨rfl, by rw [Crc.step_val]⟩
theorem oneTo_get (x : BitVec 32) : (oneTo x)[0]? = some (.int .u32 (x.toNat : Int)) := by simp [oneTo, z57]
theorem oneTo_set (x y : BitVec 32) : (oneTo x).setIfInBounds 0 (.int .u32 (y.toNat : Int)) = oneTo y := by simp [oneTo]
theorem build57x (i : Nat) (x : BitVec 32) (h : (i : Int) = (x.toNat : Int)) (w : World) : (Instr.build 245 #[(0, .agg #[.int .u32 (i : Int)])]).run Tryz.prog w = .ok (.agg (oneTo x)) w := by
 rw [h]; exact build57a w _
theorem store57x (x : BitVec 32) (w : World) : (Instr.storeAt 245 (.pointer (some ⟨w.heap.size, 0, none⟩)) (.agg (oneTo x))).run Tryz.prog (w.alloc (.cells z57 245)) = .ok () (w.alloc (.cells (oneTo x) 245)) :=
 run_storeAt_new w 245 z57 (oneTo x) (by rw [size57]; exact info57) (by rw [size57]; simp [z57]) (one57 x)
theorem table1_any (i : Nat) (w : World) (hi : i < 256) :
  Calls Tryz.prog 181 #[.int .i64 (i : Int)] w fun e w' => e = .returned (.int .u32 ((Crc.tab i).toNat : Int)) /\ Below w.heap.size w w' := by
 obtain ⟨x, hx⟩ : ∃ x : BitVec 32, x = BitVec.ofNat 32 i := ⟨_, rfl⟩
 have hxi : (i : Int) = (x.toNat : Int) := by rw [hx, BitVec.toNat_ofNat]; omega
 have hy : Crc.tab i = Crc.steps 8 x := by rw [hx]; rfl
 have HX := Lib.hid hxi
 have HY := Lib.hid hy
 have hlt := x.isLt
 clear hxi hy hx
 go_enter Tryz.func181, Tryz.ntmps181
 go_wp2_with (first
  | (with_reducible refine wpList_alloc rfl 245 rfl (alloc57 _) ?_)
  | (refine wpList_build1 rfl 245 0 (.tmp 6) rfl (.agg #[.int .u32 (i : Int)]) rfl (build57x i x HX.out _) ?_)
  | (refine wpList_store rfl 245 (.tmp 3) (.tmp 7) rfl (.pointer (some ⟨w.heap.size, 0, none⟩)) (.agg (oneTo x)) rfl rfl (store57x x _) ?_))
 go_loopw [8] (fun t wr => ∃ k : Nat, k <= 8 /\ t = .int .i64 k /\ Row wr w.heap.size 245 (oneTo (Crc.steps k x)) /\ Below w.heap.size w wr) (fun t _ => 8 - (intOf t).toNat)
 case atStart => exact ⟨0, by omega, rfl, Row.new w 245 _, (Below.refl _ _).alloc (Nat.le_refl _) _⟩
 case round =>
  obtain ⟨k, hk, rfl, hrow, hb⟩ := hrel
  by_cases hlt8 : k < 8
  ·go_wp2_with (first | (go_at_call 182; refine (step_any _ _ (Crc.steps k x) _ ((hrow.cell 0).trans (oneTo_get _)) (hrow.frozen 0)).mono ?_; rintro e w' ⟨rfl, rfl⟩))
   go_roundw
   case rel => exact ⟨k + 1, by omega, by go_num, by rw [Crc.steps, <- oneTo_set]; exact (hrow.set 0 _), (hb.setCell (p := ⟨w.heap.size, 0, none⟩) (Nat.le_refl _) _).drew⟩
   case measure => simp [intOf]; omega
  ·obtain rfl : k = 8 := by omega
   have hc := (hrow.cell 0).trans (oneTo_get _)
   go_wp2
   go_ret
   exact ⟨by rw [HY.out]; rfl, hb⟩
theorem tabTo_size (k : Nat) : (tabTo k).size = 256 := by simp [tabTo]
theorem tabTo_get (k i : Nat) : (tabTo k)[i]? = if i < 256 then some (.int .u32 (if i < k then ((Crc.tab i).toNat : Int) else 0)) else none := by
 unfold tabTo
 rw [Array.getElem?_map, Array.getElem?_range]
 by_cases h : i < 256
 ·rw [if_pos h, if_pos h]; rfl
 ·rw [if_neg h, if_neg h]; rfl
theorem tabCells_get (i : Nat) : tabCells[i]? = if i < 256 then some (.int .u32 ((Crc.tab i).toNat : Int)) else none := by
 unfold tabCells
 rw [Array.getElem?_map, Array.getElem?_range]
 by_cases h : i < 256
 ·rw [if_pos h, if_pos h]; rfl
 ·rw [if_neg h, if_neg h]; rfl
theorem tabTo_zero : tabTo 0 = z33 := by
 apply Array.ext_getElem?
 intro i
 rw [tabTo_get]
 unfold z33
 rw [Array.getElem?_replicate]
 by_cases h : i < 256
 ·rw [if_pos h, if_pos h, if_neg (by omega)]
 ·rw [if_neg h, if_neg h]
theorem tabTo_all : tabTo 256 = tabCells := by
 apply Array.ext_getElem?
 intro i
 rw [tabTo_get, tabCells_get]
 by_cases h : i < 256
 ·rw [if_pos h, if_pos h, if_pos h]
 ·rw [if_neg h, if_neg h]
theorem tabTo_set (k : Nat) (h : k < 256) : (tabTo k).setIfInBounds k (.int .u32 ((Crc.tab k).toNat : Int)) = tabTo (k + 1) := by
 apply Array.ext_getElem?
 intro i
 rw [Array.getElem?_setIfInBounds, tabTo_get, tabTo_get, tabTo_size]
 by_cases e : k = i
 ·subst e; rw [if_pos rfl, if_pos h, if_pos h, if_pos (by omega)]
 ·rw [if_neg e]
  by_cases h4 : i < 256
  ·rw [if_pos h4, if_pos h4]
   by_cases h3 : i < k
   ·rw [if_pos h3, if_pos (by omega)]
   ·rw [if_neg h3, if_neg (by omega)]
  ·rw [if_neg h4, if_neg h4]
theorem tab_one : tabCells.all (·.oneCell') = true := by
 rw [Array.all_eq_true_iff_forall_mem]
 intro v hv
 obtain ⟨i, hi, rfl⟩ := Array.mem_map.1 hv
 rfl
theorem tab_size : tabCells.size = 256 := by simp [tabCells]
theorem table_any (w : World) :
  Calls Tryz.prog 168 #[] w fun e w' => e = .returned (.agg tabCells) /\ Below w.heap.size w w' := by
 have hz : Hid (tabTo 0 = z33) := tabTo_zero
 go_enter Tryz.func168, Tryz.ntmps168
 go_wp2_with (first
  | (with_reducible refine wpList_alloc rfl 242 rfl (alloc33 _) ?_))
 go_loopw [3] (fun t wr => ∃ k : Nat, k <= 256 /\ t = .int .i64 k /\ Row wr w.heap.size 242 (tabTo k) /\ Below w.heap.size w wr) (fun t _ => 256 - (intOf t).toNat)
 case atStart => exact ⟨0, by omega, rfl, by rw [hz.out]; exact Row.new w 242 _, (Below.refl _ _).alloc (Nat.le_refl _) _⟩
 case round =>
  obtain ⟨k, hk, rfl, hrow, hb⟩ := hrel
  by_cases hlt8 : k < 256
  ·have hbl : w.heap.size < wr.heap.size := hrow.lt
   go_wp2_with (first | (go_at_call 181; refine (table1_any k _ hlt8).mono ?_; rintro e w1 ⟨rfl, hb1⟩; have hrow1 := hrow.belowAll hb1; have hc : w1.cell? ⟨w.heap.size, k, none⟩ = some ((tabTo k)[k]'(by rw [tabTo_size]; exact hlt8)) := (hrow1.cell k).trans (Array.getElem?_eq_getElem _); have hf := hrow1.frozen k))
   go_roundw
   case rel => exact ⟨k + 1, by omega, by go_num, by rw [<- tabTo_set k hlt8]; exact (hrow1.set k _), ((hb.trans (hb1.mono (by omega))).setCell (p := ⟨w.heap.size, k, none⟩) (Nat.le_refl _) _)⟩
   case measure => simp [intOf]; omega
  ·obtain rfl : k = 256 := by omega
   have hr : Row wr w.heap.size 242 tabCells := by rw [<- tabTo_all]; exact hrow
   go_wp2_with (first
    | (refine wpList_load_row rfl 242 (.tmp 0) rfl w.heap.size rfl 242 tabCells (0, 0) _ hr Tryz.underlying242 rfl (by rw [tab_size]; exact info33) ?_)
    | (refine wpList_store rfl 242 (.tmp 0) (.tmp 12) rfl (.pointer (some ⟨w.heap.size, 0, none⟩)) (.agg tabCells) rfl rfl (run_store_row hr tabCells (by rw [tab_size]; exact info33) (by simp) tab_one) ?_))
   have hr2 := row_setCells tabCells.toList 0 wr tabCells hr
   rw [setFrom_whole _ _ (by simp), Array.toArray_toList] at hr2
   refine bodyPost_ret (results_cell_row rfl _ _ w.heap.size 242 tabCells (0, 0) _ rfl hr2 Tryz.underlying242 rfl (by rw [tab_size]; exact info33)) rfl ⟨rfl, hb.trans (below_of_grown (grown_setCells _ _ _) (Nat.le_refl _) hb.size)⟩
def rc (x : BitVec 32) : Array Value := #[.int .u32 (x.toNat : Int)] ++ tabCells
theorem build57b (w : World) (x : BitVec 32) : (Instr.build 245 #[(0, .agg #[.int .u32 (x.toNat : Int)]), (1, .agg tabCells)]).run Tryz.prog w = .ok (.agg (rc x)) w := by kernel_rfl
theorem rc_size (x : BitVec 32) : (rc x).size = 257 := by simp [rc, tab_size]
theorem rc_get0 (x : BitVec 32) : (rc x)[0]? = some (.int .u32 (x.toNat : Int)) := by
 unfold rc
 rw [Array.getElem?_append_left (by simp)]; rfl
theorem rc_get (x : BitVec 32) (i : Nat) (h : i < 256) : (rc x)[i + 1]? = some (.int .u32 ((Crc.tab i).toNat : Int)) := by
 unfold rc
 rw [Array.getElem?_append_right (by simp)]
 simp only [List.size_toArray, List.length_cons, List.length_nil, Nat.zero_add, Nat.add_sub_cancel]
 rw [tabCells_get, if_pos h]
theorem rc_set (x y : BitVec 32) : (rc x).setIfInBounds 0 (.int .u32 (y.toNat : Int)) = rc y := by
 unfold rc
 rw [Array.setIfInBounds_append_left (by simp)]; simp
theorem rc_one (x : BitVec 32) : (rc x).all (·.oneCell') = true := by
 unfold rc; rw [Array.all_append, tab_one]; simp [Value.oneCell']
theorem store57y (x : BitVec 32) (w : World) : (Instr.storeAt 245 (.pointer (some ⟨w.heap.size, 0, none⟩)) (.agg (rc x))).run Tryz.prog (w.alloc (.cells z57 245)) = .ok () (w.alloc (.cells (rc x) 245)) :=
 run_storeAt_new w 245 z57 (rc x) (by rw [rc_size]; exact info57) (by rw [rc_size]; simp [z57]) (rc_one x)
theorem take_any (g : Nat) (A : Option Addr) (n cap : Nat) (l : List UInt8) (x : BitVec 32) (w : World) (hn : l.length = n) (hm : n <= 1099511627776) (hr : Rd w A l) (hrow : Row w g 245 (rc x)) (hne : ∀ b o, A = some ⟨b, o, none⟩ -> l ≠ [] -> b ≠ g) :
  Calls Tryz.prog 169 #[.pointer (some ⟨g, 0, none⟩), .slice A n cap] w fun e w' => e = .returned (.tuple #[]) /\ Row w' g 245 (rc (Crc.run x l)) /\ w.grownBy w' (some g) := by
 subst hn
 go_enter Tryz.func169, Tryz.ntmps169
 go_wp2
 go_loopw [8] (fun t wr => ∃ k : Nat, k <= l.length /\ t = .int .i64 k /\ Row wr g 245 (rc (Crc.run x (l.take k))) /\ w.grownBy wr (some g)) (fun t _ => l.length - (intOf t).toNat)
 case atStart => exact ⟨0, by omega, rfl, by simpa [Crc.run] using hrow, grown_refl _ _⟩
 case round =>
  obtain ⟨k, hk, rfl, hrw, hg⟩ := hrel
  by_cases hlt : k < l.length
  ·obtain ⟨b, o, rfl, hc⟩ := hr.at_ hlt
   have hbg : b ≠ g := hne b o rfl (by intro e; subst e; simp at hlt)
   have hc1 : wr.cell? ⟨b, o + k, none⟩ = some (byteV l[k]) := by
    rw [World.cell?_of_block (w := w) (hg.block b (block_lt_of_cell hc) (by intro e; injection e; contradiction))]; exact hc
   obtain ⟨y, hy⟩ : ∃ y, Crc.run x (l.take k) = y := ⟨_, rfl⟩
   have hnext : Crc.run x (l.take (k + 1)) = Crc.byteOn y l[k] := by
    rw [List.take_succ_eq_append_getElem hlt, Crc.run_snoc, hy]
   rw [hy] at hrw
   have hyl := y.isLt
   have hcl : l[k].toNat < 256 := l[k].toNat_lt
   have h0 : wr.cell? ⟨g, 0, none⟩ = some (.int .u32 (y.toNat : Int)) := (hrw.cell 0).trans (rc_get0 _)
   have hf0 := hrw.frozen 0
   have HN := Lib.hid hnext
   clear hnext
   generalize l[k] = c at *
   replace hc1 : wr.cell? ⟨b, o + k, none⟩ = some (.int .u8 (c.toNat : Int)) := hc1
   obtain ⟨j, hj⟩ : ∃ j : Nat, j = (y.toNat % 256) ^^^ c.toNat := ⟨_, rfl⟩
   have hjl : j < 256 := by rw [hj]; exact Nat.xor_lt_two_pow (n := 8) (by omega) hcl
   have hjb : bits .xor .u8 ((y.toNat : Int) % 256) (c.toNat : Int) = (j : Int) := by rw [hj]; exact u8_xor_nat (y.toNat % 256) c.toNat (by omega) hcl
   have hcj : wr.cell? ⟨g, 1 + j, none⟩ = some (.int .u32 ((Crc.tab j).toNat : Int)) := by rw [Nat.add_comm]; exact (hrw.cell (j + 1)).trans (rc_get _ _ hjl)
   have HJ := Lib.hid hj
   clear hj hy hc
   have htl := (Crc.tab j).isLt
   go_wp2
   go_region
   go_wp2
   rw [Crc.take_val y c j HJ.out]
   go_roundw
   case rel => exact ⟨k + 1, by omega, by go_num, by rw [HN.out, <- rc_set y]; exact (hrw.set 0 _), grown_drew (grown_trans hg (grown_set wr g 0 _))⟩
   case measure => simp [intOf]; omega
  ·obtain rfl : k = l.length := by omega
   rw [List.take_length] at hrw
   go_wp2
   go_end0
   exact ⟨rfl, hrw, hg⟩
theorem not_val (s : BitVec 32) : bits .xor .u32 IntKind.u32.max (s.toNat : Int) = ((~~~s).toNat : Int) := by
 have h : IntKind.u32.max = ((BitVec.allOnes 32).toNat : Int) := by decide
 rw [h, Crc.u32_xor_bv, BitVec.allOnes_xor]
theorem more_any (s : BitVec 32) (A : Option Addr) (n cap : Nat) (ls : List (List UInt8)) (w : World) (hn : ls.length = n) (hm : n <= 1099511627776) (hp : ∀ l ∈ ls, l.length <= 1099511627776) (hr : Rds w A ls) :
  Calls Tryz.prog 140 #[.int .u32 (s.toNat : Int), .slice A n cap] w fun e w' => e = .returned (.int .u32 ((Crc.more s ls.flatten).toNat : Int)) /\ Below w.heap.size w w' := by
 subst hn
 have hsl := s.isLt
 obtain ⟨y, hy⟩ : ∃ y, y = ~~~s := ⟨_, rfl⟩
 have hyb : bits .xor .u32 IntKind.u32.max (s.toNat : Int) = (y.toNat : Int) := by rw [hy]; exact not_val s
 have HY := Lib.hid hy
 have HP := Lib.hid hp
 clear hy hp
 have hsg : IntKind.u32.signed = false := rfl
 go_enter Tryz.func140, Tryz.ntmps140
 go_wp2_with (first
  | (go_at_call 168; refine (table_any _).mono ?_; rintro e w1 ⟨rfl, hb1⟩)
  | (with_reducible refine wpList_alloc rfl 245 rfl (alloc57 _) ?_)
  | (refine wpList_build2 rfl 245 0 1 (.tmp 10) (.tmp 11) rfl (.agg #[.int .u32 (y.toNat : Int)]) (.agg tabCells) rfl rfl (build57b _ _) ?_)
  | (refine wpList_store rfl 245 (.tmp 5) (.tmp 12) rfl (.pointer (some ⟨w1.heap.size, 0, none⟩)) (.agg (rc y)) rfl rfl (store57y y _) ?_))
 have hr1 := hr.below hb1
 go_loopw [15] (fun t wr => ∃ k : Nat, k <= ls.length /\ t = .int .i64 k /\ Row wr w1.heap.size 245 (rc (Crc.run y (ls.take k).flatten)) /\ Below w1.heap.size w1 wr) (fun t _ => ls.length - (intOf t).toNat)
 case atStart => exact ⟨0, by omega, rfl, by simpa [Crc.run] using Row.new w1 245 _, (Below.refl _ _).alloc (Nat.le_refl _) _⟩
 case round =>
  obtain ⟨k, hk, rfl, hrw, hb⟩ := hrel
  by_cases hlt : k < ls.length
  ·obtain ⟨b, o, Ai, ci, rfl, hc1, hrd1⟩ := hr1.at_ hlt
   have hc : wr.cell? ⟨b, o + k, none⟩ = some (.slice Ai ls[k].length ci) := (hb.cell (p := ⟨b, o + k, none⟩) (block_lt_of_cell hc1)).trans hc1
   have hrd := hrd1.below hb
   have hlt1 := fun (b' o' : Nat) (e : Ai = some ⟨b', o', none⟩) (hl : ls[k] ≠ []) => Nat.ne_of_lt (hrd1.lt e hl)
   have hnext : Crc.run y (ls.take (k + 1)).flatten = Crc.run (Crc.run y (ls.take k).flatten) ls[k] := by
    rw [List.take_succ_eq_append_getElem hlt, List.flatten_append, Crc.run_append]; simp
   have hpl : ls[k].length <= 1099511627776 := HP.out _ (List.getElem_mem hlt)
   have HN := Lib.hid hnext
   have HL := Lib.hid hlt1
   clear hnext hlt1 hc1 hrd1
   generalize Crc.run y (ls.take k).flatten = z at *
   generalize ls[k] = l at *
   go_wp2_with (first | (go_at_call 169; refine (take_any w1.heap.size Ai _ ci l z _ rfl hpl hrd hrw HL.out).mono ?_; rintro e w2 ⟨rfl, hrw2, hg2⟩))
   go_roundw
   case rel => exact ⟨k + 1, by omega, by go_num, by rw [HN.out]; exact hrw2, hb.trans (below_of_grown hg2 (Nat.le_refl _) hb.size)⟩
   case measure => simp [intOf]; omega
  ·obtain rfl : k = ls.length := by omega
   rw [List.take_length] at hrw
   obtain ⟨z, hz⟩ : ∃ z, Crc.run y ls.flatten = z := ⟨_, rfl⟩
   obtain ⟨v, hv⟩ : ∃ v, v = ~~~z := ⟨_, rfl⟩
   have hzb : bits .xor .u32 IntKind.u32.max (z.toNat : Int) = (v.toNat : Int) := by rw [hv]; exact not_val z
   have hfin : Crc.more s ls.flatten = v := by rw [Crc.more, <- HY.out, hz, hv]
   have HF := Lib.hid hfin
   rw [hz] at hrw
   clear hz hv hfin
   have h0 := (hrw.cell 0).trans (rc_get0 _)
   have hzl := z.isLt
   go_wp2
   go_ret
   exact ⟨by rw [HF.out]; rfl, hb1.trans (hb.mono hb1.size)⟩
theorem sum_any (A : Option Addr) (n cap : Nat) (ls : List (List UInt8)) (w : World) (hn : ls.length = n) (hm : n <= 1099511627776) (hp : ∀ l ∈ ls, l.length <= 1099511627776) (hr : Rds w A ls) :
  Calls Tryz.prog 109 #[.slice A n cap] w fun e w' => e = .returned (.int .u32 ((Crc.sum ls.flatten).toNat : Int)) /\ Below w.heap.size w w' := by
 have HP := Lib.hid hp
 have HN := Lib.hid hn
 clear hp hn
 go_enter Tryz.func109, Tryz.ntmps109
 go_wp2_with (first | (go_at_call 140; refine (more_any 0#32 A n cap ls _ HN.out hm HP.out hr).mono ?_; rintro e w1 ⟨rfl, hb1⟩))
 go_ret
 exact ⟨rfl, hb1⟩
def byteAt (x : BitVec 32) (k : Nat) : UInt8 := UInt8.ofNat (x.toNat / 2 ^ (8 * k))
def low4 (x : BitVec 32) : List UInt8 := [byteAt x 0, byteAt x 1, byteAt x 2, byteAt x 3]
theorem byteAt_val (x : BitVec 32) (k : Nat) : ((byteAt x k).toNat : Int) = (x.toNat : Int) / (2 ^ (8 * k) : Nat) % 256 := by
 unfold byteAt; rw [UInt8.toNat_ofNat']; omega
theorem low4_take (x : BitVec 32) (k : Nat) (h : k < 4) : (low4 x).take (k + 1) = (low4 x).take k ++ [byteAt x k] := by
 rcases k with _ | _ | _ | _ | k
 ·rfl
 ·rfl
 ·rfl
 ·rfl
 ·omega
theorem Rd.byte1 {w : World} {t : TypeId} {z : Int} {c : UInt8} (h : z = (c.toNat : Int)) : Rd (w.alloc (.cells #[.int .u8 z] t)) (some ⟨w.heap.size, 0, none⟩) [c] := by
 subst h; exact Rd.lit w t [c]
theorem low_any (x : BitVec 32) (w : World) :
  Calls Tryz.prog 108 #[.int .u32 (x.toNat : Int)] w fun e w' => ∃ v, e = .returned v /\ Own 5 w' w.heap.size v (low4 x) /\ Below w.heap.size w w' := by
 have hx := x.isLt
 go_enter Tryz.func108, Tryz.ntmps108
 go_wp2
 go_loopw [2, 4] (fun v t wr => ∃ k : Nat, k <= 4 /\ t = .int .i64 k /\ Own 5 wr w.heap.size v ((low4 x).take k) /\ Below w.heap.size w wr) (fun _ t _ => 4 - (intOf t).toNat)
 case atStart => exact ⟨0, by omega, rfl, Own.nil _ _ _, Below.refl _ _⟩
 case round =>
  obtain ⟨k, hk, rfl, hown, hb⟩ := hrel
  by_cases hlt : k < 4
  ·have hnx : (low4 x).take (k + 1) = (low4 x).take k ++ [byteAt x k] := low4_take x k hlt
   have HN := Lib.hid hnx
   have hlen : ((low4 x).take k).length <= 4 := by rw [List.length_take]; omega
   clear hnx
   generalize (low4 x).take k = acc at *
   go_wp2_with (first
    | (at_builtin; refine wpList_append_bytes rfl (.tmp 7) (.tmp 13) 60 rfl w.heap.size 5 Tryz.underlying60 byteInfo _ acc rfl (hown.alloc _) (some ⟨wr.heap.size, 0, none⟩) 1 1 [byteAt x k] rfl rfl (Rd.byte1 ?hz) (by omega) (by have := hb.size; simp; omega) ?_; rotate_left; intro v2 w2 hown2 hg2 hat2))
   case hz => rw [byteAt_val]; push_cast; rfl
   go_roundw
   case rel => exact ⟨k + 1, by omega, by go_num, by rw [HN.out]; exact hown2, (hb.alloc hb.size _).grown hg2 (by have := hb.size; simp; omega) (fun j hj => (hown.at_ j hj).1)⟩
   case measure => simp [intOf]; omega
  ·obtain rfl : k = 4 := by omega
   go_wp2
   go_ret
   exact ⟨_, rfl, hown, hb⟩
theorem Rd.take {w : World} {A : Option Addr} {l : List UInt8} (h : Rd w A l) (k : Nat) : Rd w A (l.take k) := fun hl => by
 obtain ⟨b, o, e, hc⟩ := h (by intro e; subst e; simp at hl)
 refine ⟨b, o, e, fun i hi => ?_⟩
 rw [List.getElem_take]
 exact hc i (by rw [List.length_take] at hi; omega)
theorem Rd.drop {w : World} {A : Option Addr} {l : List UInt8} (h : Rd w A l) (k : Nat) : Rd w (A.map (·.add k)) (l.drop k) := fun hl => by
 obtain ⟨b, o, e, hc⟩ := h (by intro e; subst e; simp at hl)
 subst e
 refine ⟨b, o + k, by unfold Addr.add; simp, fun i hi => ?_⟩
 rw [List.getElem_drop, Nat.add_assoc]
 exact hc (k + i) (by rw [List.length_drop] at hi; omega)
theorem Rd.of_below {w w' : World} {A : Option Addr} {l : List UInt8} (hb : Below w.heap.size w w') (h : Rd w A l) : Rd w' A l := h.below hb
theorem below_new_drew {w w1 : World} {o : Obj} (hb : Below (w.alloc o).drew.heap.size (w.alloc o).drew w1) : Below w.heap.size w w1 :=
 (((Below.refl w.heap.size w).alloc (Nat.le_refl _) o).drew).trans (hb.mono (by simp))
def openOk (l : List UInt8) : Bool := decide (4 <= l.length) && eqB (low4 (Crc.sum (l.take (l.length - 4)))) (l.drop (l.length - 4))
def openB (l : List UInt8) : List UInt8 := if openOk l then l.take (l.length - 4) else []
def openE (l : List UInt8) : Int := if openOk l then 0 else 130
def OpenPost (w : World) (l : List UInt8) (e : Ending) (w' : World) : Prop := ∃ v, e = .returned (.tuple #[v, .int .i64 (openE l)]) /\ Own 5 w' w.heap.size v (openB l) /\ Below w.heap.size w w'
theorem open_short (A : Option Addr) (n ca : Nat) (l : List UInt8) (w : World) (hn : l.length = n) (hbn : n < 4) :
  Calls Tryz.prog 67 #[.slice A n ca] w (OpenPost w l) := by
 have hok : openOk l = false := by unfold openOk; rw [decide_eq_false (by omega)]; rfl
 have hB : openB l = [] := by rw [openB, hok]; rfl
 have hE : openE l = 130 := by rw [openE, hok]; rfl
 have HB := Lib.hid hB
 have HE := Lib.hid hE
 clear hn hok hB hE
 have hlt : decide ((n : Int) - 4 < 0) = true := by simp; omega
 go_enter Tryz.func67, Tryz.ntmps67
 go_wp2
 go_quiet (fail)
 go_wp2
 go_ret2
 exact ⟨_, by rw [HE.out]; rfl, by rw [HB.out]; exact Own.nil _ _ _, (Drawn.refl w).drewN _ |>.below _⟩
theorem open_long (A : Option Addr) (n ca : Nat) (l : List UInt8) (w : World) (hn : l.length = n) (hbn : 4 <= n) (hbt : n <= 1099511627776) (hca : n <= ca) (hr : Rd w A l) :
  Calls Tryz.prog 67 #[.slice A n ca] w (OpenPost w l) := by
 obtain ⟨m, rfl⟩ : ∃ m, n = m + 4 := ⟨n - 4, by omega⟩
 have hlt : decide ((m : Int) < 0) = false := by simp
 have hcm : ¬ ca = m := by omega
 have hmc : m <= ca := by omega
 have hmi : (m : Int) <= (m : Int) + 4 := by omega
 have hci : (m : Int) + 4 <= (ca : Int) := by omega
 have hlt4 : (l.take m).length = m := by rw [List.length_take]; omega
 have hld4 : (l.drop m).length = 4 := by rw [List.length_drop]; omega
 have HT := Lib.hid hlt4
 have HD := Lib.hid hld4
 have hP : ∀ x ∈ [l.take m], x.length <= 1099511627776 := by simp; omega
 have HP := Lib.hid hP
 have hfl : [l.take m].flatten = l.take m := by simp
 have HF := Lib.hid hfl
 have hok : openOk l = eqB (low4 (Crc.sum (l.take m))) (l.drop m) := by
  unfold openOk; rw [decide_eq_true (by omega), hn]; simp
 have hB : openB l = if openOk l then l.take m else [] := by rw [openB, hn, Nat.add_sub_cancel]
 have hE : openE l = if openOk l then 0 else 130 := rfl
 rw [hok] at hB hE
 have HB := Lib.hid hB
 have HE := Lib.hid hE
 have hr1 := hr.take m
 have hr2 := hr.drop m
 clear hn hlt4 hld4 hP hfl hok hB hE
 generalize l.take m = a at *
 generalize l.drop m = d at *
 go_enter Tryz.func67, Tryz.ntmps67
 go_wp2
 go_region_held3 (fun _ => True) (exact trivial) (first
  | (go_at_call 109; refine (sum_any _ 1 1 [a] _ rfl (by omega) HP.out ?_).mono ?_; go_must (exact Rds.one _ hr1 HT.out); rintro e w1 ⟨rfl, hb1⟩; have hr3 := Rd.of_below hb1 (show Rd _ A a from hr1.alloc (.cells #[.slice A m ca] 60)); have hr4 := Rd.of_below hb1 (show Rd _ (A.map (·.add m)) d from hr2.alloc (.cells #[.slice A m ca] 60)))
  | (go_at_call 108; refine (low_any _ _).mono ?_; rintro e w2 ⟨v2, rfl, hown2, hb2⟩; obtain ⟨A2, c2, rfl, _, _, hrd2⟩ := hown2.slice)
  | (go_at_call 115; refine (equal_any _ _ 4 _ _ _ (low4 (Crc.sum a)) d _ rfl HD.out (by omega) (by omega) hrd2 (hr4.below hb2)).mono ?_; rintro e w3 ⟨rfl, hd3⟩))
 have hb1' : Below w.heap.size w w1 := below_new_drew hb1
 have hb3 : Below w.heap.size w w3 := (hb1'.trans (hb2.mono hb1'.size)).trans (hd3.below _)
 have hr5 := (hr3.below hb2).below (hd3.below _)
 generalize eqB (low4 (Crc.sum a)) d = q at *
 cases q
 ·go_wp2
  go_ret2
  exact ⟨_, by rw [HE.out]; rfl, by rw [HB.out]; exact Own.nil _ _ _, hb3⟩
 ·go_wp2_with (first
   | (go_at_call 78; refine (clone_any A m ca a _ HT.out (by omega) hr5).mono ?_; rintro e w4 ⟨v4, rfl, hown4, hb4⟩))
  go_ret2
  exact ⟨_, by rw [HE.out]; rfl, by rw [HB.out]; exact hown4.mono hb3.size, hb3.trans (hb4.mono hb3.size)⟩
def hi : List UInt8 := [104, 105]
theorem open_any (A : Option Addr) (n ca : Nat) (l : List UInt8) (w : World) (hn : l.length = n) (hbt : n <= 1099511627776) (hca : n <= ca) (hr : Rd w A l) :
  Calls Tryz.prog 67 #[.slice A n ca] w (OpenPost w l) := by
 by_cases h : 4 <= n
 ·exact open_long A n ca l w hn h hbt hca hr
 ·exact open_short A n ca l w hn (by omega)
theorem Own.form {U : TypeId} {w : World} {base : Nat} {v : Value} {l : List UInt8} (h : Own U w base v l) (hne : l ≠ []) :
  ∃ g c, v = .slice (some ⟨g, 0, none⟩) l.length c /\ base <= g /\ l.length <= c /\ c <= maxLen /\ Rd w (some ⟨g, 0, none⟩) l := by
 obtain ⟨A, c, e, h1, h2, hr⟩ := h.slice
 rcases h.2 with ⟨rfl, hn⟩ | ⟨g, cap, cur, rfl, hb, _⟩
 ·exact absurd (List.eq_nil_of_length_eq_zero hn) hne
 ·injection e with e1 e2 e3
  subst e1 e3
  exact ⟨g, cap, rfl, hb, h1, h2, hr⟩
end Go.Proofs.YtloiaaolnfimgaaGreat
namespace Go.Proofs.YtloiaaolnfimgaaGreat.Sha
abbrev W := BitVec 32
structure St where
 a : W
 b : W
 c : W
 d : W
 e : W
 f : W
 g : W
 h : W
def St.get (x : St) : Nat -> W
 | 0 => x.a
 | 1 => x.b
 | 2 => x.c
 | 3 => x.d
 | 4 => x.e
 | 5 => x.f
 | 6 => x.g
 | _ => x.h
def St.list (x : St) : List W := [x.a, x.b, x.c, x.d, x.e, x.f, x.g, x.h]
def St.add (x y : St) : St := ⟨x.a + y.a, x.b + y.b, x.c + y.c, x.d + y.d, x.e + y.e, x.f + y.f, x.g + y.g, x.h + y.h⟩
def first : St := ⟨0x6a09e667#32, 0xbb67ae85#32, 0x3c6ef372#32, 0xa54ff53a#32, 0x510e527f#32, 0x9b05688c#32, 0x1f83d9ab#32, 0x5be0cd19#32⟩
def ks : List W := [0x428a2f98#32, 0x71374491#32, 0xb5c0fbcf#32, 0xe9b5dba5#32, 0x3956c25b#32, 0x59f111f1#32, 0x923f82a4#32, 0xab1c5ed5#32,
 0xd807aa98#32, 0x12835b01#32, 0x243185be#32, 0x550c7dc3#32, 0x72be5d74#32, 0x80deb1fe#32, 0x9bdc06a7#32, 0xc19bf174#32,
 0xe49b69c1#32, 0xefbe4786#32, 0x0fc19dc6#32, 0x240ca1cc#32, 0x2de92c6f#32, 0x4a7484aa#32, 0x5cb0a9dc#32, 0x76f988da#32,
 0x983e5152#32, 0xa831c66d#32, 0xb00327c8#32, 0xbf597fc7#32, 0xc6e00bf3#32, 0xd5a79147#32, 0x06ca6351#32, 0x14292967#32,
 0x27b70a85#32, 0x2e1b2138#32, 0x4d2c6dfc#32, 0x53380d13#32, 0x650a7354#32, 0x766a0abb#32, 0x81c2c92e#32, 0x92722c85#32,
 0xa2bfe8a1#32, 0xa81a664b#32, 0xc24b8b70#32, 0xc76c51a3#32, 0xd192e819#32, 0xd6990624#32, 0xf40e3585#32, 0x106aa070#32,
 0x19a4c116#32, 0x1e376c08#32, 0x2748774c#32, 0x34b0bcb5#32, 0x391c0cb3#32, 0x4ed8aa4a#32, 0x5b9cca4f#32, 0x682e6ff3#32,
 0x748f82ee#32, 0x78a5636f#32, 0x84c87814#32, 0x8cc70208#32, 0x90befffa#32, 0xa4506ceb#32, 0xbef9a3f7#32, 0xc67178f2#32]
def kc (t : Nat) : W := ks.getD t 0#32
def ror (x : W) (n : Nat) : W := (x >>> n) ||| (x <<< (32 - n))
def S0 (x : W) : W := ror x 2 ^^^ ror x 13 ^^^ ror x 22
def S1 (x : W) : W := ror x 6 ^^^ ror x 11 ^^^ ror x 25
def s0 (x : W) : W := ror x 7 ^^^ ror x 18 ^^^ (x >>> 3)
def s1 (x : W) : W := ror x 17 ^^^ ror x 19 ^^^ (x >>> 10)
def ch (e f g : W) : W := g ^^^ (e &&& (f ^^^ g))
def maj (a b c : W) : W := (a &&& (b ||| c)) ||| (b &&& c)
def rnd (k w : W) (x : St) : St :=
 ⟨x.h + S1 x.e + ch x.e x.f x.g + k + w + (S0 x.a + maj x.a x.b x.c), x.a, x.b, x.c, x.d + (x.h + S1 x.e + ch x.e x.f x.g + k + w), x.e, x.f, x.g⟩
def nxt (l : List W) : W := s1 (l.getD 1 0#32) + l.getD 6 0#32 + s0 (l.getD 14 0#32) + l.getD 15 0#32
def Ms (m : Nat -> W) : Nat -> List W
 | 0 => []
 | t + 1 => (if t < 16 then m t else nxt (Ms m t)) :: Ms m t
def M (m : Nat -> W) (t : Nat) : W := (Ms m (t + 1)).headD 0#32
def rs (x : St) (m : Nat -> W) : Nat -> St
 | 0 => x
 | t + 1 => rnd (kc t) (M m t) (rs x m t)
def press (x : St) (m : Nat -> W) : St := (rs x m 64).add x
def zx (c : UInt8) : W := BitVec.setWidth 32 c.toBitVec
def be (l : List UInt8) : W := l.foldl (fun n x => (n <<< 8) ||| zx x) 0#32
def wd (l : List UInt8) (i : Nat) : W := be ((l.drop (4 * i)).take 4)
def blk (x : St) (l : List UInt8) : St := press x (wd l)
def foldN : Nat -> St -> List UInt8 -> St
 | 0, x, _ => x
 | n + 1, x, l => foldN n (blk x (l.take 64)) (l.drop 64)
def state (l : List UInt8) : St := foldN (l.length / 64) first l
def left (l : List UInt8) : List UInt8 := l.drop (64 * (l.length / 64))
def zeros (n : Nat) : List UInt8 := List.replicate n 0
def told (n many : Nat) : List UInt8 := (List.range many).map fun i => UInt8.ofNat (n / 256 ^ (many - 1 - i))
def noughts (n : Nat) : Nat := (119 - n % 64) % 64
def padded (l : List UInt8) : List UInt8 := l ++ (128 :: zeros (noughts l.length)) ++ told (l.length * 8) 8
def toldSt (x : St) : List UInt8 := (x.list.map fun w => told w.toNat 4).flatten
def sum (l : List UInt8) : List UInt8 := toldSt (state (padded l))
example : sum [97, 98, 99] = [0xba, 0x78, 0x16, 0xbf, 0x8f, 0x01, 0xcf, 0xea, 0x41, 0x41, 0x40, 0xde, 0x5d, 0xae, 0x22, 0x23, 0xb0, 0x03, 0x61, 0xa3, 0x96, 0x17, 0x7a, 0x9c, 0xb4, 0x10, 0xff, 0x61, 0xf2, 0x00, 0x15, 0xad] := by decide +kernel
end Go.Proofs.YtloiaaolnfimgaaGreat.Sha
namespace Go.Proofs.YtloiaaolnfimgaaGreat
open Go.RowKit
structure IsRot (w : World) (v : Value) (s : Nat) (ps : List Nat) (bs bp bl : Nat) : Prop where
 val : v = .func (.func 192) #[] #[.pointer (some ⟨bs, 0, none⟩), .pointer (some ⟨bp, 0, none⟩)]
 sh : Row w bs 3 #[intV s]
 pl : Row w bp 271 #[.slice (some ⟨bl, 0, none⟩) ps.length ps.length]
 li : Row w bl 3 (ps.map intV).toArray
theorem IsRot.keep {w w' : World} {v : Value} {s : Nat} {ps : List Nat} {bs bp bl : Nat} (h : IsRot w v s ps bs bp bl) (h1 : w'.heap[bs]? = w.heap[bs]?) (h2 : w'.heap[bp]? = w.heap[bp]?) (h3 : w'.heap[bl]? = w.heap[bl]?) : IsRot w' v s ps bs bp bl :=
 ⟨h.val, h1.trans h.sh, h2.trans h.pl, h3.trans h.li⟩
theorem IsRot.later {w w' : World} {v : Value} {s : Nat} {ps : List Nat} {bs bp bl : Nat} (h : IsRot w v s ps bs bp bl) (hL : Later w w') : IsRot w' v s ps bs bp bl :=
 ⟨h.val, h.sh.later hL, h.pl.later hL, h.li.later hL⟩
end Go.Proofs.YtloiaaolnfimgaaGreat
namespace Go.Proofs.YtloiaaolnfimgaaGreat
open Go.RowKit Go.Shelf
attribute [local go_sem] Oper.semAt_some
def IsFn (w : World) (b s : Nat) (ps : List Nat) (S : Nat -> Prop) : Prop := ∃ v bs bp bl, Row w b 259 #[v] /\ IsRot w v s ps bs bp bl /\ S b /\ S bs /\ S bp /\ S bl
theorem IsFn.keep {w w' : World} {b s : Nat} {ps : List Nat} {S : Nat -> Prop} (h : IsFn w b s ps S) (hk : ∀ k, S k -> w'.heap[k]? = w.heap[k]?) : IsFn w' b s ps S := by
 obtain ⟨v, bs, bp, bl, h1, h2, h3, h4, h5, h6⟩ := h
 exact ⟨v, bs, bp, bl, (hk b h3).trans h1, h2.keep (hk bs h4) (hk bp h5) (hk bl h6), h3, h4, h5, h6⟩
structure AllFn (w : World) (bm bq bn bf : Nat) (S : Nat -> Prop) : Prop where
 sq : S bq
 q : Row w bq 272 #[.pointer (some ⟨bm, 0, none⟩)]
 n : IsFn w bn 3 [7, 18] S
 f : IsFn w bf 10 [17, 19] S
theorem AllFn.keep {w w' : World} {bm bq bn bf : Nat} {S : Nat -> Prop} (h : AllFn w bm bq bn bf S) (hk : ∀ k, S k -> w'.heap[k]? = w.heap[k]?) : AllFn w' bm bq bn bf S :=
 ⟨h.sq, (hk _ h.sq).trans h.q, h.n.keep hk, h.f.keep hk⟩
end Go.Proofs.YtloiaaolnfimgaaGreat
namespace Go.Proofs.YtloiaaolnfimgaaGreat
open Go.RowKit Go.Shelf
attribute [local go_sem] Oper.semAt_some
theorem IsFn.later {w w' : World} {b s : Nat} {ps : List Nat} {S : Nat -> Prop} (h : IsFn w b s ps S) (hL : Later w w') : IsFn w' b s ps S := by
 obtain ⟨v, bs, bp, bl, h1, h2, h3⟩ := h
 exact ⟨v, bs, bp, bl, h1.later hL, h2.later hL, h3⟩
theorem AllFn.later {w w' : World} {bm bq bn bf : Nat} {S : Nat -> Prop} (h : AllFn w bm bq bn bf S) (hL : Later w w') : AllFn w' bm bq bn bf S := ⟨h.sq, h.q.later hL, h.n.later hL, h.f.later hL⟩
def Keeps (S : Nat -> Prop) (bm : Nat) (X Y : World) : Prop := (∀ k, S k -> Y.heap[k]? = X.heap[k]?) /\ Y.heap[bm]? = X.heap[bm]?
end Go.Proofs.YtloiaaolnfimgaaGreat
namespace Go.Proofs.YtloiaaolnfimgaaGreat
open Go.RowKit Go.Shelf
structure Held (bm bx : Nat) (w0 W : World) : Prop where
 os : W.os = w0.os
 tape : W.tape = w0.tape
 output : W.output = w0.output
 size : w0.heap.size <= W.heap.size
 block : ∀ k, k < w0.heap.size -> k ≠ bm -> k ≠ bx -> W.heap[k]? = w0.heap[k]?
theorem Held.refl (bm bx : Nat) (w : World) : Held bm bx w w := ⟨rfl, rfl, rfl, Nat.le_refl _, fun _ _ _ _ => rfl⟩
theorem Held.grown {bm bx : Nat} {w0 X Y : World} {row : Option Nat} (h : Held bm bx w0 X) (hg : X.grownBy Y row) (hr : ∀ r, row = some r -> r = bm \/ r = bx \/ w0.heap.size <= r) : Held bm bx w0 Y :=
 ⟨hg.os.trans h.os, hg.tape.trans h.tape, hg.output.trans h.output, Nat.le_trans h.size hg.size, fun k hk h1 h2 => (hg.block k (Nat.lt_of_lt_of_le hk h.size) (fun e => by
  rcases hr k e.symm with h3 | h3 | h3
  ·exact h1 h3
  ·exact h2 h3
  ·omega)).trans (h.block k hk h1 h2)⟩
theorem Keeps.trans {S : Nat -> Prop} {bm : Nat} {A B D : World} (h : Keeps S bm A B) (k : Keeps S bm B D) : Keeps S bm A D := ⟨fun i hi => (k.1 i hi).trans (h.1 i hi), k.2.trans h.2⟩
end Go.Proofs.YtloiaaolnfimgaaGreat
namespace Go.Proofs.YtloiaaolnfimgaaGreat
open Go.RowKit
theorem setFrom_mid (pre mid post vs : List Value) (o : Nat) (ho : pre.length = o) (h : vs.length = mid.length) : setFrom (pre ++ (mid ++ post)).toArray o vs = (pre ++ (vs ++ post)).toArray := by
 subst ho
 apply Array.ext_getElem?
 intro i
 rw [setFrom_get _ _ _ _ (by simp; omega), List.getElem?_toArray, List.getElem?_toArray]
 by_cases h1 : i < pre.length
 ·rw [if_neg (by omega), List.getElem?_append_left h1, List.getElem?_append_left h1]
 ·have hl : ∀ m : List Value, (pre ++ (m ++ post))[i]? = (m ++ post)[i - pre.length]? := fun m => List.getElem?_append_right (by omega)
  rw [hl mid, hl vs]
  by_cases h2 : i < pre.length + vs.length
  ·rw [if_pos (by omega), List.getElem?_append_left (by omega)]
  ·rw [if_neg (by omega), List.getElem?_append_right (l₁ := vs) (by omega), List.getElem?_append_right (l₁ := mid) (by omega), h]
def runC (x : Sha.St) (p : List UInt8) (n : Nat) : Array Value := (x.list.map wordV ++ (p.map byteV ++ [intV n, .bool true])).toArray
def IsRun (w : World) (g : Nat) (l : List UInt8) : Prop := ∃ p, p.length = 64 /\ p.take (l.length % 64) = Sha.left l /\ Row w g 253 (runC (Sha.state l) p l.length)
theorem IsRun.lt {w : World} {g : Nat} {l : List UInt8} (h : IsRun w g l) : g < w.heap.size := by
 obtain ⟨p, _, _, hr⟩ := h
 exact hr.lt
theorem IsRun.later {w w' : World} {g : Nat} {l : List UInt8} (h : IsRun w g l) (hL : Later w w') : IsRun w' g l := by
 obtain ⟨p, h1, h2, hr⟩ := h
 exact ⟨p, h1, h2, hr.later hL⟩
theorem wpList_box {P : Program} {ops : Array Oper} {rest : List Oper} {o : Oper} {a : Act} {w : World} {Q : Exit -> Act -> World -> Prop} (hgd : o.guard = none) (T : TypeId) (x : Operand) (ho : o.op = .box T x) (vx : Value) (hx : a.eval x = vx) {v : Value} {w' : World} (hr : (Instr.box T vx).run P w = .ok v w')
  (h : wpList P ops Q rest (a.put o.dst v) w') : wpList P ops Q (o :: rest) a w :=
 wpList_plain hgd fun _ hK => by
  unfold Oper.wp execOp
  simp only [ho, Sem.run_bind, Sem.run_pure, Result.andThen_ok, hx, hr]
  exact hK _ _ h
theorem info5 : (Tryz.prog.info? 5).map (fun i => (i.zero, i.size, i.bytes)) = some (some (.int .u8 0), 1, 1) := by kernel_rfl
def hC (b : List UInt8) : Array Value := ((b ++ Sha.zeros (32 - b.length)).map byteV).toArray
theorem hC_copy (b d : List UInt8) (h : b.length + d.length <= 32) : setFrom (hC b) b.length (d.map byteV) = hC (b ++ d) := by
 have := setFrom_mid (b.map byteV) ((Sha.zeros d.length).map byteV) ((Sha.zeros (32 - b.length - d.length)).map byteV) (d.map byteV) b.length (by simp) (by simp [Sha.zeros])
 unfold hC
 rw [show Sha.zeros (32 - b.length) = Sha.zeros d.length ++ Sha.zeros (32 - b.length - d.length) from by unfold Sha.zeros; rw [List.replicate_append_replicate]; congr 1; omega]
 simp only [List.map_append, List.append_assoc, List.length_append] at this ⊢
 rw [this, show 32 - (b.length + d.length) = 32 - b.length - d.length from by omega]
theorem hC_size (b : List UInt8) (h : b.length <= 32) : (hC b).size = 32 := by simp [hC, Sha.zeros]; omega
theorem hC_one (b : List UInt8) : (hC b).all (·.oneCell') = true := by
 rw [Array.all_eq_true_iff_forall_mem]
 intro v hv
 unfold hC at hv
 rw [List.mem_toArray] at hv
 obtain ⟨i, hi, rfl⟩ := List.mem_map.1 hv; rfl
theorem infoH : (Tryz.prog.info? 25).map (·.size) = some 32 := by kernel_rfl
theorem allocH (w : World) : (Instr.alloc 25 true (.tuple #[])).run Tryz.prog w = .ok (.pointer (some ⟨w.heap.size, 0, none⟩)) (w.alloc (.cells (hC []) 25)) := by kernel_rfl
theorem boxH (h : List UInt8) (hl : h.length = 32) (w : World) : (Instr.box 25 (.agg (hC h))).run Tryz.prog w = .ok (.pointer (some ⟨w.heap.size, 0, none⟩)) (w.alloc (.cells (hC h) 25)) := by
 have hs := hC_size h (by omega)
 go_simp
def signs : ByteArray := { data := #[48, 49, 50, 51, 52, 53, 54, 55, 56, 57, 97, 98, 99, 100, 101, 102] }
theorem hC_get (h : List UInt8) (k : Nat) (hk : k < h.length) (hl : h.length <= 32) : (hC h)[k]? = some (.int .u8 ((h[k]).toNat : Int)) := by
 unfold hC
 rw [List.getElem?_toArray, List.getElem?_map, List.getElem?_append_left hk, List.getElem?_eq_getElem hk]
 rfl
theorem loadH {w : World} {g : Nat} {h : List UInt8} (hl : h.length = 32) (hr : Row w g 25 (hC h)) : (Instr.loadAt 25 (.pointer (some ⟨g, 0, none⟩))).run Tryz.prog w = .ok (.agg (hC h)) w := by
 have := run_loadAt_mid (P := Tryz.prog) w g 0 25 (hC h).toList _ (hr.range 0 _ fun j v hv => by rw [Nat.zero_add, <- Array.getElem?_toList]; exact hv) Tryz.underlying25 rfl (by rw [Array.length_toList, hC_size h (by omega)]; exact infoH)
 rwa [Array.toArray_toList] at this
theorem results_cell_tmp {P : Program} {fn : Func} {p q : Tmp} {ty : TypeId} (h : fn.results = #[.cell p ty, .tmp q]) (tmps : Array Value) (w : World) (g : Nat) (t : TypeId) (cs : Array Value) (fr : Nat × Nat) (d : TypeDesc) (v : Value)
  (hp : tmps.getD p undef = .pointer (some ⟨g, 0, none⟩)) (hq : tmps.getD q undef = v) (hg : w.heap[g]? = some (.cells cs t fr))
  (hu : P.underlying ty = some d) (hd : (match d with | .struct _ | .array _ _ => true | _ => false) = true) (hi : (P.info? ty).map (·.size) = some cs.size) :
  (results fn tmps).run P w = .ok (.tuple #[.agg cs, v]) w := by
 have hp' : tmps[p]?.getD undef = .pointer (some ⟨g, 0, none⟩) := by simpa using hp
 have hq' : tmps[q]?.getD undef = v := by simpa using hq
 simp [results, h, hp', hq', asAddr, run_loadVar_row w g t ty cs fr d hg hu hd hi]
def signsL : List UInt8 := [48, 49, 50, 51, 52, 53, 54, 55, 56, 57, 97, 98, 99, 100, 101, 102]
def dig (c : UInt8) : Int := Lib.indexByte signsL c
theorem dig_bd (c : UInt8) : -1 <= dig c /\ dig c <= 15 := by
 have h : ∀ n : Fin 256, (-1 <= dig (UInt8.ofNat n.val) /\ dig (UInt8.ofNat n.val) <= 15) := by decide +kernel
 have := h ⟨c.toNat, c.toNat_lt⟩
 simpa using this
theorem idxByte_any (c : UInt8) (w : World) : Calls Tryz.prog 144 #[.string signs, .int .u8 (c.toNat : Int)] w fun e w' => e = .returned (.int .i64 (dig c)) /\ w = w' := by
 refine (Tryz.strings_IndexByte signs (c.toNat : Int) w).mono ?_
 rintro e w' ⟨rfl, rfl⟩
 refine ⟨?_, rfl⟩
 have : ((c.toNat : Int)).toNat.toUInt8 = c := by simp
 rw [this]
 rfl
def newb (x : UInt8) (d : Nat) : UInt8 := UInt8.ofNat (x.toNat * 16 + d)
def hp (l : List UInt8) : Nat -> List UInt8
 | 0 => Sha.zeros 32
 | i + 1 => (hp l i).set (i / 2) (newb ((hp l i).getD (i / 2) 0) (dig (l.getD i 0)).toNat)
theorem hp_len (l : List UInt8) (i : Nat) : (hp l i).length = 32 := by
 induction i with
 | zero => simp [hp, Sha.zeros]
 | succ i ih => rw [hp, List.length_set, ih]
def digsTo (l : List UInt8) (n : Nat) : Prop := ∀ i, i < n -> 0 <= dig (l.getD i 0)
def isHash (l : List UInt8) : Prop := l.length = 64 /\ digsTo l 64
theorem or_new (x : UInt8) (d : Nat) (hd : d < 16) : bits .or .u8 ((x.toNat : Int) * 16 % 256) (d : Int) = ((newb x d).toNat : Int) := by
 have hx := x.toNat_lt
 rw [show (x.toNat : Int) * 16 % 256 = ((x.toNat * 16 % 256 : Nat) : Int) from by omega, u8_or_nat _ _ (by omega) (by omega), nat_join 4 _ _ (by omega) (by omega)]
 unfold newb
 rw [UInt8.toNat_ofNat']
 omega
theorem hC_set (h : List UInt8) (i : Nat) (x : UInt8) (hl : h.length = 32) : (hC h).setIfInBounds i (byteV x) = hC (h.set i x) := by
 unfold hC
 rw [List.length_set, hl]
 simp only [Sha.zeros, Nat.sub_self, List.replicate_zero, List.append_nil]
 simp [List.map_set]
theorem storeH {w : World} {g : Nat} {a b : List UInt8} (ha : a.length <= 32) (hb : b.length <= 32) (hr : Row w g 25 (hC a)) : ∃ w', (Instr.storeAt 25 (.pointer (some ⟨g, 0, none⟩)) (.agg (hC b))).run Tryz.prog w = .ok () w' /\ Row w' g 25 (hC b) /\ w.grownBy w' (some g) := by
 have h1 := hC_size a ha
 have h2 := hC_size b hb
 refine ⟨_, run_store_row hr (hC b) (by rw [h2]; exact infoH) (by rw [h1, h2]; omega) (hC_one _), ?_, grown_setCells _ _ _⟩
 have hr2 := row_setCells (hC b).toList 0 w _ hr
 rw [setFrom_whole _ _ (by rw [Array.length_toList, h1, h2]), Array.toArray_toList] at hr2
 exact hr2
instance (l : List UInt8) (n : Nat) : Decidable (digsTo l n) := by unfold digsTo; exact inferInstance
instance (l : List UInt8) : Decidable (isHash l) := by unfold isHash; exact inferInstance
def parseB (l : List UInt8) : List UInt8 := if isHash l then hp l 64 else []
def parseE (l : List UInt8) : Int := if isHash l then 0 else 110
theorem parse_ok {l : List UInt8} (h : isHash l) : parseB l = hp l 64 /\ parseE l = 0 := ⟨if_pos h, if_pos h⟩
theorem parse_no {l : List UInt8} (h : ¬ isHash l) : parseB l = [] /\ parseE l = 110 := ⟨if_neg h, if_neg h⟩
theorem loop_len (bs : ByteArray) : ∀ (n i : Nat) (r : List UInt8), bs.size - i = n -> (ByteArray.toList.loop bs i r).length = n + r.length := by
 intro n
 induction n with
 | zero =>
  intro i r h
  rw [ByteArray.toList.loop, if_neg (by omega)]
  simp
 | succ n ih =>
  intro i r h
  rw [ByteArray.toList.loop, if_pos (by omega), ih (i + 1) _ (by omega), List.length_cons]
  omega
theorem toList_nonempty (bs : ByteArray) (h : 0 < bs.size) : bs.toList.isEmpty = false := by
 have := loop_len bs bs.size 0 [] (by omega)
 cases h2 : bs.toList with
 | nil =>
  unfold ByteArray.toList at h2
  rw [h2] at this
  simp at this
  omega
 | cons _ _ => rfl
theorem parse_any (s : ByteArray) (w : World) (hs : s.size <= 1000000) :
  Calls Tryz.prog 116 #[.string s] w fun e w' => e = .returned (.tuple #[.agg (hC (parseB s.data.toList)), .int .i64 (parseE s.data.toList)]) /\ Below w.heap.size w w' := by
 by_cases h0 : s.size = 0
 ·have hl : s.data.toList = [] := List.eq_nil_of_length_eq_zero (by simpa using h0)
  have hno : ¬ isHash s.data.toList := fun h => by
   have := h.1
   rw [hl] at this
   simp at this
  obtain ⟨hB, hE⟩ := parse_no hno
  have HB := Lib.hid hB
  have HE := Lib.hid hE
  have hrow := Row.new w 25 (hC [])
  have hld : (Instr.loadAt 25 (.pointer (some ⟨w.heap.size, 0, none⟩))).run Tryz.prog (w.alloc (.cells (hC []) 25)) = .ok (.agg (hC [])) (w.alloc (.cells (hC []) 25)) := loadH (h := Sha.zeros 32) (by simp [Sha.zeros]) hrow
  obtain ⟨w9, hst, hr9, hg9⟩ := storeH (a := []) (b := []) (by simp) (by simp) hrow
  have hs0 : s = ⟨#[]⟩ := by
   rcases s with ⟨⟨l⟩⟩
   have : l = [] := hl
   rw [this]
  have hb1 : Below w.heap.size w w9 := (below_new w _).grown hg9 (by simp only [World.size_alloc]; omega) (fun j e => by cases e; exact Nat.le_refl _)
  subst hs0
  clear hno hB hE hl h0
  go_enter Tryz.func116, Tryz.ntmps116
  go_wp2_with (first
   | (with_reducible refine wpList_alloc rfl 25 rfl (allocH _) ?_))
  refine wp_loop_rounds 1 ?_
  rw [rounds_succ]
  go_wp2_with (first
   | (refine wpList_load rfl 25 (.tmp 2) rfl (.pointer (some ⟨w.heap.size, 0, none⟩)) rfl hld ?_)
   | (refine wpList_store rfl 25 (.tmp 2) (.tmp 37) rfl (.pointer (some ⟨w.heap.size, 0, none⟩)) (.agg (hC [])) rfl rfl hst ?_))
  refine bodyPost_ret (results_cell_tmp rfl _ _ w.heap.size 25 (hC []) (0, 0) _ (.int .i64 110) rfl rfl hr9 Tryz.underlying25 rfl (by rw [hC_size [] (by simp)]; exact infoH)) rfl ⟨by rw [HB.out, HE.out], hb1⟩
 by_cases h64 : s.size = 64
 ·have hn64 : ((s.size : Int) != 64) = false := by rw [bne_eq_false_iff_eq]; omega
  have hn64' : (s.size != 64) = false := by rw [bne_eq_false_iff_eq]; omega
  have hl : s.data.toList.length = 64 := by rw [<- h64]; simp
  have hrow0 : Row (w.alloc (.cells (hC []) 25)) w.heap.size 25 (hC (hp s.data.toList 0)) := Row.new w _ _
  have hne : s.data.toList ≠ [] := by intro e; rw [e] at hl; simp at hl
  have H64 := Lib.hid h64
  have HNE := Lib.hid hne
  have HL := Lib.hid hl
  clear h64 h0 hl hne
  go_enter Tryz.func116, Tryz.ntmps116
  go_wp2_with (first
   | (with_reducible refine wpList_alloc rfl 25 rfl (allocH _) ?_))
  go_loopw [4, 5, 8] (fun _ _ t wr => ∃ k : Nat, k <= 64 /\ t = .int .i64 k /\ digsTo s.data.toList k /\ Row wr w.heap.size 25 (hC (hp s.data.toList k)) /\ Below w.heap.size w wr) (fun _ _ t _ => 64 - (intOf t).toNat)
  case atStart => exact ⟨0, by omega, rfl, fun i hi => absurd hi (by omega), hrow0, below_new w _⟩
  case round =>
   obtain ⟨k, hk, rfl, hdg, hr, hb⟩ := hrel
   clear hrow0
   by_cases hlt : k < 64
   ·have hks : k < s.size := by rw [H64.out]; exact hlt
    obtain ⟨c, hc⟩ : ∃ c, s[k] = c := ⟨_, rfl⟩
    have hcl : s.data.toList.getD k 0 = c := by
     rw [<- hc, List.getD_eq_getElem?_getD, List.getElem?_eq_getElem (by rw [HL.out]; exact hlt)]
     rfl
    have hcb := c.toNat_lt
    obtain ⟨hd1, hd2⟩ := dig_bd c
    obtain ⟨d, hd⟩ : ∃ d, dig c = d := ⟨_, rfl⟩
    rw [hd] at hd1 hd2
    have hdl : dig (s.data.toList.getD k 0) = d := by rw [hcl, hd]
    have HD := Lib.hid hd
    have HDL := Lib.hid hdl
    have HDG := Lib.hid hdg
    clear hcl hdg hd hdl
    by_cases hneg : d < 0
    ·have hdn : decide (d < 0) = true := by simpa using hneg
     have hno : ¬ isHash s.data.toList := fun h => by
      have := h.2 k hlt
      rw [HDL.out] at this
      omega
     obtain ⟨hB, hE⟩ := parse_no hno
     obtain ⟨w9, hst, hr9, hg9⟩ := storeH (a := hp s.data.toList k) (b := []) (by rw [hp_len]; omega) (by simp) hr
     have HB := Lib.hid hB
     have HE := Lib.hid hE
     clear hno hB hE
     go_wp2_with (first
      | (go_at_call 144; refine (idxByte_any c _).mono ?_; rintro e w' ⟨rfl, rfl⟩; rw [HD.out])
      | (refine wpList_store rfl 25 (.tmp 2) (.tmp 22) rfl (.pointer (some ⟨w.heap.size, 0, none⟩)) (.agg (hC [])) rfl rfl hst ?_))
     refine bodyPost_ret (results_cell_tmp rfl _ _ w.heap.size 25 (hC []) (0, 0) _ (.int .i64 110) rfl rfl hr9 Tryz.underlying25 rfl (by rw [hC_size [] (by simp)]; exact infoH)) rfl ⟨by rw [HB.out, HE.out], hb.grown hg9 hb.size (fun j e => by cases e; exact Nat.le_refl _)⟩
    ·obtain ⟨dn, rfl⟩ : ∃ dn : Nat, d = (dn : Int) := ⟨d.toNat, by omega⟩
     have hdn : decide ((dn : Int) < 0) = false := by simp
     have hq : k / 2 < (hp s.data.toList k).length := by rw [hp_len]; omega
     have hcx := (hr.cell (k / 2)).trans (hC_get _ _ hq (by rw [hp_len]; omega))
     have hfx := hr.frozen (k / 2)
     have hnx : hp s.data.toList (k + 1) = (hp s.data.toList k).set (k / 2) (newb ((hp s.data.toList k)[k / 2]) dn) := by
      rw [hp, HDL.out, List.getD_eq_getElem?_getD, List.getElem?_eq_getElem hq]
      rfl
     have hset := hC_set (hp s.data.toList k) (k / 2) (newb ((hp s.data.toList k)[k / 2]) dn) (hp_len _ _)
     rw [<- hnx] at hset
     have HSET := Lib.hid hset
     have hdg' : digsTo s.data.toList (k + 1) := fun i hi => by
      by_cases e : i = k
      ·subst e; rw [HDL.out]; omega
      ·exact HDG.out i (by omega)
     have HDG' := Lib.hid hdg'
     clear hnx hset hdg'
     generalize (hp s.data.toList k)[k / 2] = x at *
     have hor := or_new x dn (by omega)
     have hxl := x.toNat_lt
     have hdm : (dn : Int) % 256 = (dn : Int) := by omega
     generalize newb x dn = y at *
     go_wp2_with (first
      | (go_at_call 144; refine (idxByte_any c _).mono ?_; rintro e w' ⟨rfl, rfl⟩; rw [HD.out]))
     go_roundw
     case rel => exact ⟨k + 1, by omega, by go_num, HDG'.out, by rw [<- HSET.out]; exact hr.set _ _, hb.setCell (p := ⟨w.heap.size, k / 2, none⟩) (Nat.le_refl _) _⟩
     case measure => simp [intOf]; omega
   ·obtain rfl : k = 64 := by omega
    have hyes : isHash s.data.toList := ⟨HL.out, hdg⟩
    obtain ⟨hB, hE⟩ := parse_ok hyes
    have hHl := hp_len s.data.toList 64
    generalize hp s.data.toList 64 = H at *
    have hld := loadH hHl hr
    obtain ⟨w9, hst, hr9, hg9⟩ := storeH (a := H) (b := H) (by omega) (by omega) hr
    have hnl : decide (64 < s.size) = false := by have := H64.out; simp; omega
    have hnl2 : decide ((64 : Int) < (s.size : Int)) = false := by have := H64.out; simp; omega
    have hemp : s.data.toList.isEmpty = false := by cases h : s.data.toList with
     | nil => exact absurd h HNE.out
     | cons _ _ => rfl
    have hemp3 := toList_nonempty s (by have := H64.out; omega)
    have hemp4 : s.toList ≠ [] := fun e => by rw [e] at hemp3; cases hemp3
    have hemp2 : ¬ s.data.toList = [] := HNE.out
    clear hemp4
    have HB := Lib.hid hB
    have HE := Lib.hid hE
    have hsz := hC_size H (by omega)
    have HSZ := Lib.hid hsz
    clear hyes hB hE hdg hsz hHl
    go_wp2_with (first
     | (refine wpList_load rfl 25 (.tmp 2) rfl (.pointer (some ⟨w.heap.size, 0, none⟩)) rfl hld ?_)
     | (refine wpList_store rfl 25 (.tmp 2) (.tmp 38) rfl (.pointer (some ⟨w.heap.size, 0, none⟩)) (.agg (hC H)) rfl rfl hst ?_))
    refine bodyPost_ret (results_cell_tmp rfl _ _ w.heap.size 25 (hC H) (0, 0) _ (.int .i64 0) rfl rfl hr9 Tryz.underlying25 rfl (by rw [HSZ.out]; exact infoH)) rfl ⟨by rw [HB.out, HE.out], hb.grown hg9 hb.size (fun j e => by cases e; exact Nat.le_refl _)⟩
 ·have hno : ¬ isHash s.data.toList := fun h => by
   have := h.1
   simp at this
   exact h64 this
  obtain ⟨hB, hE⟩ := parse_no hno
  have HB := Lib.hid hB
  have HE := Lib.hid hE
  have hrow := Row.new w 25 (hC [])
  obtain ⟨w9, hst, hr9, hg9⟩ := storeH (a := []) (b := []) (by simp) (by simp) hrow
  have hb1 : Below w.heap.size w w9 := (below_new w _).grown hg9 (by simp only [World.size_alloc]; omega) (fun j e => by cases e; exact Nat.le_refl _)
  have hks : 0 < s.size := by omega
  have hn64 : ((s.size : Int) != 64) = true := by rw [bne_iff_ne]; omega
  have hn64' : (s.size != 64) = true := by rw [bne_iff_ne]; omega
  obtain ⟨c, hc⟩ : ∃ c, s[0] = c := ⟨_, rfl⟩
  have hcb := c.toNat_lt
  obtain ⟨d, hd⟩ : ∃ d, dig c = d := ⟨_, rfl⟩
  have HD := Lib.hid hd
  clear hno hB hE h64 h0 hd
  by_cases hneg : d < 0
  all_goals
   go_enter Tryz.func116, Tryz.ntmps116
   go_wp2_with (first
    | (with_reducible refine wpList_alloc rfl 25 rfl (allocH _) ?_))
   refine wp_loop_rounds 1 ?_
   rw [rounds_succ]
   go_wp2_with (first
    | (go_at_call 144; refine (idxByte_any c _).mono ?_; rintro e w' ⟨rfl, rfl⟩; rw [HD.out])
    | (refine wpList_store rfl 25 (.tmp 2) (.tmp 22) rfl (.pointer (some ⟨w.heap.size, 0, none⟩)) (.agg (hC [])) rfl rfl hst ?_))
   refine bodyPost_ret (results_cell_tmp rfl _ _ w.heap.size 25 (hC []) (0, 0) _ (.int .i64 110) rfl rfl hr9 Tryz.underlying25 rfl (by rw [hC_size [] (by simp)]; exact infoH)) rfl ⟨by rw [HB.out, HE.out], hb1⟩
def RdsC (w : World) (A : Option Addr) (ls : List (List UInt8)) : Prop :=
 ls ≠ [] -> ∃ b o, A = some ⟨b, o, none⟩ /\ ∀ i (h : i < ls.length), ∃ Ai ci, w.cell? ⟨b, o + i, none⟩ = some (.slice Ai ls[i].length ci) /\ ls[i].length <= ci /\ ci <= 9223372036854775807 /\ Rd w Ai ls[i]
theorem RdsC.below {w w' : World} {A : Option Addr} {ls : List (List UInt8)} (h : RdsC w A ls) (hb : Below w.heap.size w w') : RdsC w' A ls := fun hl => by
 obtain ⟨b, o, e, hc⟩ := h hl
 refine ⟨b, o, e, fun i hi => ?_⟩
 obtain ⟨Ai, ci, h1, h2, h3, h4⟩ := hc i hi
 exact ⟨Ai, ci, (hb.cell (p := ⟨b, o + i, none⟩) (block_lt_of_cell h1)).trans h1, h2, h3, h4.below hb⟩
theorem RdsC.at_ {w : World} {A : Option Addr} {ls : List (List UInt8)} (h : RdsC w A ls) {k : Nat} (hk : k < ls.length) : ∃ b o Ai ci, A = some ⟨b, o, none⟩ /\ w.cell? ⟨b, o + k, none⟩ = some (.slice Ai ls[k].length ci) /\ ls[k].length <= ci /\ ci <= 9223372036854775807 /\ Rd w Ai ls[k] := by
 obtain ⟨b, o, e, hc⟩ := h (by intro e; subst e; simp at hk)
 obtain ⟨Ai, ci, h1⟩ := hc k hk
 exact ⟨b, o, Ai, ci, e, h1⟩
theorem RdsC.one {w : World} {A : Option Addr} {n c g : Nat} {l : List UInt8} (t : TypeId) (hg : w.heap.size = g) (h : Rd w A l) (hn : l.length = n) (hc : n <= c) (hm : c <= 9223372036854775807) : RdsC (w.alloc (.cells #[.slice A n c] t)) (some ⟨g, 0, none⟩) [l] := fun _ =>
 ⟨_, _, rfl, fun i hi => by
  have e : i = 0 := by simpa using hi
  subst e
  subst hn
  subst hg
  exact ⟨A, c, ((Row.new w t _).cell 0).trans rfl, hc, hm, h.alloc _⟩⟩
theorem rd_hash {w : World} {g : Nat} {h : List UInt8} {t : TypeId} (hl : h.length = 32) (hr : Row w g t (hC h)) : Rd w (some ⟨g, 0, none⟩) h := fun _ =>
 ⟨_, _, rfl, fun i hi => by
  rw [hr.cell, Nat.zero_add]
  exact hC_get h i hi (by omega)⟩
section
variable {P : Program}
theorem run_box_row (w : World) (T : TypeId) (cs : Array Value) (hi : (P.info? T).map (·.size) = some cs.size) : (Instr.box T (.agg cs)).run P w = .ok (.pointer (some ⟨w.heap.size, 0, none⟩)) (w.alloc (.cells cs T)) := by
 obtain ⟨i, hi0, hs⟩ := Option.map_eq_some_iff.1 hi
 simp [Instr.box, sizeOf, typeInfo, hi0, hs, go_sem]
theorem run_load_row {w : World} {g : Nat} {t T : TypeId} {cs : Array Value} {d : TypeDesc} (hr : Row w g t cs) (hu : P.underlying T = some d) (hd : d.isRow = true) (hi : (P.info? T).map (·.size) = some cs.size) : (Instr.loadAt T (.pointer (some ⟨g, 0, none⟩))).run P w = .ok (.agg cs) w := by
 have := run_loadAt_mid (P := P) w g 0 T cs.toList d (hr.range 0 _ fun j v hv => by rw [Nat.zero_add, <- Array.getElem?_toList]; exact hv) hu hd (by rw [Array.length_toList]; exact hi)
 rwa [Array.toArray_toList] at this
theorem run_load_part {w : World} {g o : Nat} {t T : TypeId} {cs vs : Array Value} {d : TypeDesc} (hr : Row w g t cs) (hv : ∀ j, j < vs.size -> cs[o + j]? = vs[j]?) (hu : P.underlying T = some d) (hd : d.isRow = true) (hi : (P.info? T).map (·.size) = some vs.size) : (Instr.loadAt T (.pointer (some ⟨g, o, none⟩))).run P w = .ok (.agg vs) w := by
 have := run_loadAt_mid (P := P) w g o T vs.toList d (hr.range o _ fun j v hj => by
  have hlt : j < vs.size := by
   rcases Nat.lt_or_ge j vs.size with h | h
   ·exact h
   ·rw [Array.getElem?_toList, Array.getElem?_eq_none h] at hj; cases hj
  rw [hv j hlt, <- Array.getElem?_toList]; exact hj) hu hd (by rw [Array.length_toList]; exact hi)
 rwa [Array.toArray_toList] at this
theorem run_put_row {w : World} {g : Nat} {t T : TypeId} {cs vs : Array Value} (hr : Row w g t cs) (hs : vs.size = cs.size) (hi : (P.info? T).map (·.size) = some vs.size) (h1 : vs.all (·.oneCell') = true) :
  ∃ w', (Instr.storeAt T (.pointer (some ⟨g, 0, none⟩)) (.agg vs)).run P w = .ok () w' /\ Row w' g t vs /\ w.grownBy w' (some g) := by
 refine ⟨_, run_store_row hr vs hi (by omega) h1, ?_, grown_setCells _ _ _⟩
 have := row_setCells vs.toList 0 w cs hr
 rwa [setFrom_whole _ _ (by simp [hs])] at this
end
theorem Row.has {w : World} {g : Nat} {t : TypeId} {cs : Array Value} (h : Row w g t cs) (i : Nat) (hi : i < cs.size) : ∃ v, w.cell? ⟨g, i, none⟩ = some v := ⟨_, (h.cell i).trans (Array.getElem?_eq_getElem hi)⟩
theorem below_dN {B : Nat} {w W : World} (h : Below B w W) (n : Nat) : Below B w (W.drewN n) := h.trans ((Drawn.refl W).drewN n |>.below _)
def fillTo (n : Nat) (z : Value) (f : Nat -> Value) (k : Nat) : Array Value := ((List.range n).map fun j => if j < k then f j else z).toArray
theorem fillTo_size (n : Nat) (z : Value) (f : Nat -> Value) (k : Nat) : (fillTo n z f k).size = n := by simp [fillTo]
theorem fillTo_get (n : Nat) (z : Value) (f : Nat -> Value) (k j : Nat) (h : j < n) : (fillTo n z f k)[j]? = some (if j < k then f j else z) := by simp [fillTo, h]
theorem fillTo_get_lt {n : Nat} {z : Value} {f : Nat -> Value} {k j : Nat} (hk : k <= n) (h : j < k) : (fillTo n z f k)[j]? = some (f j) := by rw [fillTo_get _ _ _ _ _ (by omega), if_pos h]
theorem fillTo_zero (n : Nat) (z : Value) (f : Nat -> Value) : fillTo n z f 0 = Array.replicate n z := by
 apply Array.ext_getElem?
 intro i
 by_cases h : i < n
 ·rw [fillTo_get n z f 0 i h, if_neg (by omega)]; simp [h]
 ·rw [Array.getElem?_eq_none (by rw [fillTo_size]; omega), Array.getElem?_eq_none (by simp; omega)]
theorem fillTo_set (n : Nat) (z : Value) (f : Nat -> Value) (k : Nat) (h : k < n) : (fillTo n z f k).setIfInBounds k (f k) = fillTo n z f (k + 1) := by
 apply Array.ext_getElem?
 intro i
 rw [Array.getElem?_setIfInBounds]
 by_cases hi : i < n
 ·by_cases e : k = i
  ·subst e; rw [if_pos rfl, if_pos (by rw [fillTo_size]; exact h), fillTo_get n z f (k + 1) k hi, if_pos (by omega)]
  ·rw [if_neg e, fillTo_get n z f k i hi, fillTo_get n z f (k + 1) i hi]
   by_cases h3 : i < k
   ·rw [if_pos h3, if_pos (by omega)]
   ·rw [if_neg h3, if_neg (by omega)]
 ·rw [if_neg (by omega), Array.getElem?_eq_none (by rw [fillTo_size]; omega), Array.getElem?_eq_none (by rw [fillTo_size]; omega)]
end Go.Proofs.YtloiaaolnfimgaaGreat
namespace Go.Proofs.YtloiaaolnfimgaaGreat
open Go.RowKit Go.Builtin
theorem run_append_zeros_own {P : Program} (w : World) (base g cap : Nat) (t tn ty e : TypeId) (kn : IntKind) (ht : P.underlying t = some (.slice e)) (htn : P.underlying tn = some (.int kn)) (hi : ByteInfo P e) (l : List UInt8) (m : Nat) (hl : l.length = m)
  (hown : Own e w base (.slice (some ⟨g, 0, none⟩) m cap) l) (n : Nat) (hm : m + n <= 1000000000) (hbase : base <= w.heap.size) :
  ∃ v' w', (Builtin.append_ #[t, tn] ty #[.slice (some ⟨g, 0, none⟩) m cap, .int kn n]).run P w = .ok v' w' /\ Own e w' base v' (l ++ List.replicate n 0) /\ w.grownBy w' (some g) /\ (v'.ownBlock = some g \/ v'.ownBlock = some w.heap.size) := by
 obtain ⟨i, hi0, hz, hs, hb⟩ := info_parts hi
 subst hl
 have hw : IntKind.i64.wrap (n : Int) = n := by rw [IntKind.wrap_i64]; omega
 have h48i : ¬ (281474976710656 < (n : Int)) := by omega
 have hneg : ¬ ((n : Int) < 0) := by omega
 rcases hown.2 with ⟨hv, _⟩ | ⟨g', cap', cur, hv, hbg, hg, hnc, hcm, hcs, htake⟩
 ·cases hv
 ·injection hv with h1 h2 h3
  injection h1 with h1
  injection h1 with h1
  subst h1 h3
  have hcr : ((List.replicate n (0 : UInt8)).map byteV).length = n := by simp
  by_cases hroom : l.length + n <= cap
  ·have hst := run_storeCells_at P g l.length e ((List.replicate n (0 : UInt8)).map byteV) 0 cur w hg (by rw [hcr]; omega) (by intro u hu; obtain ⟨x, _, rfl⟩ := List.mem_map.1 hu; rfl)
   simp only [Nat.add_zero] at hst
   have hrun : (Builtin.append_ #[t, tn] ty #[.slice (some ⟨g, 0, none⟩) l.length cap, .int kn n]).run P w = .ok (.slice (some ⟨g, 0, none⟩) (l.length + n) cap) (w.setRow g (cur.toList.take l.length ++ (List.replicate n (0 : UInt8)).map byteV ++ cur.toList.drop (l.length + ((List.replicate n (0 : UInt8)).map byteV).length)).toArray) := by
    rcases Nat.eq_zero_or_pos n with rfl | h0
    ·have hself := setRow_self w g cur e (0, 0) hg
     have hw0 : IntKind.i64.wrap 0 = 0 := by decide
     simp [Builtin.append_, run_underlying ht, run_underlying htn, sizeOf, typeInfo, zeroValue, hi0, hz, hs, hb, asInt, asIntOf, hw0, hroom, Addr.add_lit, storeCells, hself, show l.length <= cap from by omega]
    ·have hn : n ≠ 0 := by omega
     have hz2 : (zeroCells (Value.int IntKind.u8 0).cells n).toList = (List.replicate n (0 : UInt8)).map byteV := by
      rw [show (Value.int IntKind.u8 0).cells = #[.int .u8 0] from rfl, zeroCells_list]
     rw [List.map_replicate] at hst
     simp [Builtin.append_, run_underlying ht, run_underlying htn, sizeOf, typeInfo, zeroValue, hi0, hz, hs, hb, asInt, asIntOf, hw, hn, hneg, hroom, h48i, Addr.add_lit, hz2, hst]
   refine ⟨_, _, hrun, ⟨by simp, .inr ⟨g, cap, _, by simp, hbg, setRow_heap w g cur _ e _ hg, by simpa using hroom, hcm, ?_, ?_⟩⟩, ⟨rfl, rfl, rfl, by simp, fun k _ hk => setRow_other w g k _ (fun e => hk (by rw [e]))⟩, .inl rfl⟩
   ·simp only [List.size_toArray, List.length_append, List.length_take, List.length_drop, Array.length_toList, hcr]
    omega
   ·rw [Nat.mul_one] at htake ⊢
    rw [htake, List.map_append, List.length_append, List.length_replicate]
    simp only [List.append_assoc]
    rw [<- List.append_assoc]
    exact List.take_left' (by simp)
  ·have hn : n ≠ 0 := by omega
   have hnl : ¬ (l.length + n <= cap) := hroom
   have h63' : ¬ (9223372036854775807 < (l.length : Int) + (n : Int)) := by omega
   have hfc : (firstCells 1 l.length (.slice (some ⟨g, 0, none⟩) l.length cap)).run P w.drew = .ok (l.map byteV).toArray w.drew :=
    run_firstCells_some (P := P) w.drew 1 l.length ⟨g, 0, none⟩ l.length cap (l.map byteV) (by simp) (World.ownsRow.cells hown (g := g) rfl)
   have h48' : ¬ (281474976710656 < Builtin.nextslicecap (l.length + n) cap) := by
    have := nextslicecap_le (need := l.length + n) (old := cap) (by omega)
    have hc2 : cap < l.length + n := by omega
    omega
   have hge := grownCap_ge w (l.length + n) cap e
   have hle := grownCap_le_maxLen w (l.length + n) cap e (by unfold maxLen; omega)
   have hrun : (Builtin.append_ #[t, tn] ty #[.slice (some ⟨g, 0, none⟩) l.length cap, .int kn n]).run P w = .ok (.slice (some ⟨w.heap.size, 0, none⟩) (l.length + n) (grownCap w (l.length + n) cap e)) (w.drew.alloc (.cells ((l.map byteV).toArray ++ Builtin.zeroCells #[.int .u8 0] n ++ Builtin.zeroCells #[.int .u8 0] (grownCap w (l.length + n) cap e - (l.length + n))) e)) := by
    simp [Builtin.append_, run_underlying ht, run_underlying htn, sizeOf, typeInfo, zeroValue, hi0, hz, hs, hb, asInt, asIntOf, hw, hn, hneg, hnl, h63', h48', h48i, Question.forced, newRow, grownCap, hfc]
    rfl
   refine ⟨_, _, hrun, ⟨by simp, .inr ⟨w.heap.size, grownCap w (l.length + n) cap e, _, by simp, hbase, heap_alloc_new w.drew _, by simpa using hge, hle, ?_, ?_⟩⟩, ⟨rfl, rfl, rfl, by simp, fun k hk _ => Below.heap_alloc w.drew _ k hk⟩, .inr rfl⟩
   ·simp [zeroCells_list]
    omega
   ·rw [zeroCells_list, zeroCells_list, Nat.mul_one]
    simp only [List.append_toArray, List.map_append, List.length_append, List.length_replicate]
    exact List.take_left' (by simp)
theorem wpList_append_zeros {P : Program} {w : World} {ops : Array Oper} {rest : List Oper} {o : Oper} {a : Act} {Q : Exit -> Act -> World -> Prop} (hgd : o.guard = none) (s x : Operand) (t tn : TypeId)
  (ho : o.op = .call { callee := .builtin .append, args := #[s, x], argTypes := #[t, tn] }) (base g cap : Nat) (e : TypeId) (kn : IntKind) (ht : P.underlying t = some (.slice e)) (htn : P.underlying tn = some (.int kn)) (hi : ByteInfo P e)
  (l : List UInt8) (m : Nat) (hl : l.length = m) (hs : a.eval s = .slice (some ⟨g, 0, none⟩) m cap) (hown : Own e w base (.slice (some ⟨g, 0, none⟩) m cap) l) (n : Nat) (hx : a.eval x = .int kn n) (hm : m + n <= 1000000000) (hbase : base <= w.heap.size)
  (h : ∀ v' w', Own e w' base v' (l ++ List.replicate n 0) -> w.grownBy w' (some g) -> (v'.ownBlock = some g \/ v'.ownBlock = some w.heap.size) -> wpList P ops Q rest (a.put o.dst v') w') : wpList P ops Q (o :: rest) a w := by
 obtain ⟨v', w', hr, h1, h2, h3⟩ := run_append_zeros_own (P := P) w base g cap t tn o.type e kn ht htn hi l m hl hown n hm hbase
 exact Lib.wpList_append_run w hgd s x t tn ho _ _ hs hx v' w' hr (h v' w' h1 h2 h3)
end Go.Proofs.YtloiaaolnfimgaaGreat
namespace Go.Proofs.YtloiaaolnfimgaaGreat
open Go.RowKit
theorem run_slice_upto {P : Program} {t U : TypeId} {A : Option Addr} {n ca k : Nat} (ht : P.underlying t = some (.slice U)) (hi : ByteInfo P U) (h2 : k <= ca) :
  ∀ w : World, (Instr.sliceAt t (.slice A n ca) none (some (.int .i64 (k : Int))) none).run P w = .ok (.slice A k ca) w := fun w => by
 obtain ⟨i, hi0, hz, hs, hb⟩ := info_parts hi
 have he : P.elem t = U := by simp [Program.elem, ht]
 have ht' : P.underlying t = some (.slice (P.elem t)) := by rw [he]; exact ht
 rw [run_sliceAt_slice w t _ _ _ _ ht', run_slice_h w t A n ca ht' .i64 (k : Int) (by omega) (by omega), he]
 have hz : ∀ x : Addr, x.add 0 = x := fun x => by simp [Addr.add]
 simp [sizeOf, typeInfo, hi0, hs, sliced, hz]
theorem hC_cells (B : List UInt8) (h : B.length = 32) : hC B = (B.map Extern.Stop.cell).toArray := by
 unfold hC
 simp [Sha.zeros, h]
 intro a _
 rfl
theorem eqlHash (a b : List UInt8) (ha : a.length = 32) (hb : b.length = 32) (w : World) : (binOp .eql 25 (.agg (hC a)) (.agg (hC b))).run Tryz.prog w = .ok (.bool (a == b)) w := by
 rw [run_eql_struct, hC_cells a ha, hC_cells b hb, run_equalIn_bytes w 9998 25 5 32 Tryz.underlying25 Tryz.underlying5 (fun w => by kernel_rfl) a b ha hb]
 simp
theorem Rd.byteZ {w : World} {t : TypeId} {z : Int} (h0 : 0 <= z) (h1 : z < 256) : Rd (w.alloc (.cells #[.int .u8 z] t)) (some ⟨w.heap.size, 0, none⟩) [UInt8.ofNat z.toNat] :=
 Rd.byte1 (by rw [UInt8.toNat_ofNat']; omega)
end Go.Proofs.YtloiaaolnfimgaaGreat
namespace Go.Proofs.YtloiaaolnfimgaaGreat
open Go.ChangeShapes Go.WideShapes Go.ChangeAt Go.RowKit
theorem hC_full (h : List UInt8) (hl : h.length = 32) : hC h = (h.map byteV).toArray := by
 unfold hC
 simp [Sha.zeros, hl]
end Go.Proofs.YtloiaaolnfimgaaGreat
namespace Go.Proofs.YtloiaaolnfimgaaGreat
open Go.RowKit
theorem conv_rd (w : World) (l : List UInt8) (hl : l.length <= 9223372036854775807) : ∃ W cap, (convert 9 60 (.string ⟨l.toArray⟩)).run Tryz.prog w = .ok (.slice (some ⟨w.heap.size, 0, none⟩) l.length cap) W /\ Rd W (some ⟨w.heap.size, 0, none⟩) l /\ l.length <= cap /\ cap <= 9223372036854775807 /\ Later w W := by
 refine ⟨_, _, Lib.run_convert_string_bytes (P := Tryz.prog) w 9 60 5 ⟨l.toArray⟩ Tryz.underlying9 Tryz.underlying60 Tryz.underlying5, fun _ => ⟨_, _, rfl, fun i hi => ?_⟩, grownCap_ge _ _ _ _, ?_, ⟨rfl, rfl, rfl, by rw [Lib.bytesWorld_size]; omega, fun b hb => Lib.bytesWorld_at_old _ _ _ b hb⟩⟩
 ·rw [cell_of_row _ _ (0 + i) _ _ _ (Lib.bytesWorld_at_new _ _ _), Nat.zero_add]
  simp [Lib.bytesCells, Array.getElem?_append, hi]
 ·have := grownCap_le_maxLen w l.length 0 5 (by unfold maxLen; exact hl)
  unfold maxLen at this
  exact this
theorem op_conv {P : Program} {Q : Exit -> Act -> World -> Prop} {o : Oper} {a : Act} {W : World} {R : Value -> World -> Prop} {s t : TypeId} {x : Operand} {vx : Value} (ho : o.op = .convert s t x) (hx : a.eval x = vx) {v : Value} {W' : World} (hr : (convert s t vx).run P W = .ok v W') (hL : Later W W') (h : R v W') : o.wp P a W (fun a' W' => ∃ v, a' = a.put o.dst v /\ Later W W' /\ R v W') Q := op_convert ho hx hr hL h
def RdsW (w0 w : World) (A : Option Addr) (ls : List (List UInt8)) : Prop :=
 ls ≠ [] -> ∃ b o, A = some ⟨b, o, none⟩ /\ ∀ i (h : i < ls.length), ∃ Ai ci, w.cell? ⟨b, o + i, none⟩ = some (.slice Ai ls[i].length ci) /\ ls[i].length <= ci /\ ci <= 9223372036854775807 /\ Rd w0 Ai ls[i]
section
variable {P : Program} {Q : Exit -> Act -> World -> Prop}
def StepOkE (P : Program) (ops : Array Oper) (Q : Exit -> Act -> World -> Prop) (E : World -> World -> Prop) (o : Oper) (a : Act) (W : World) (R : Value -> World -> Prop) : Prop :=
 if Region.wanted o (yielded ops a.tmps) then o.wp P a W (fun a' W' => ∃ v, a' = a.put o.dst v /\ E W W' /\ R v W') Q else R undef W
theorem stepOkE_want {ops : Array Oper} {E : World -> World -> Prop} {o : Oper} {a : Act} {W : World} {R : Value -> World -> Prop} (hg : o.guard = none) (h : o.wp P a W (fun a' W' => ∃ v, a' = a.put o.dst v /\ E W W' /\ R v W') Q) : StepOkE P ops Q E o a W R := by
 unfold StepOkE
 rw [if_pos (by unfold Region.wanted; rw [hg])]
 exact h
end
def upd (xs : Nat -> Value) (i : Nat) (v : Value) : Nat -> Value := fun j => if j = i then v else xs j
theorem upd_self (xs : Nat -> Value) (i : Nat) (v : Value) : upd xs i v i = v := if_pos rfl
theorem upd_ne (xs : Nat -> Value) {i j : Nat} (v : Value) (h : j ≠ i) : upd xs i v j = xs j := if_neg h
section
variable {P : Program} {Q : Exit -> Act -> World -> Prop}
structure InvX (G : World -> World -> Prop) (ops : Array Oper) (a0 : Act) (w : World) (V : Nat -> (Nat -> Value) -> World -> Prop) (l : Array Bool) (a : Act) (W : World) : Prop where
 size : l.size = ops.size
 closed : ∀ i j, l.getD i false = true -> waits ops i j = true -> l.getD j false = true
 later : G w W
 act : ∃ xs : Nat -> Value, a = laid ops a0 l xs ops.size /\ ∀ j, j < ops.size -> l.getD j false = true -> V j xs W
structure EnvX (ops : Array Oper) (a0 : Act) (V : Nat -> (Nat -> Value) -> World -> Prop) (i : Nat) (a : Act) (W : World) (xs : Nat -> Value) : Prop where
 keep : ∀ x, keepsB ops i x = true -> a.eval x = a0.eval x
 val : ∀ j t, waits ops i j = true -> dstOf ops j = some t -> a.eval (.tmp t) = xs j
 get : ∀ j, j < ops.size -> waits ops i j = true -> V j xs W
theorem EnvX.v {ops : Array Oper} {a0 : Act} {V : Nat -> (Nat -> Value) -> World -> Prop} {i : Nat} {a : Act} {W : World} {xs : Nat -> Value} (h : EnvX ops a0 V i a W xs) (j t : Nat) (h1 : waits ops i j = true := by kernel_rfl) (h2 : dstOf ops j = some t := by exact rfl) : a.eval (.tmp t) = xs j := h.val j t h1 h2
theorem EnvX.k {ops : Array Oper} {a0 : Act} {V : Nat -> (Nat -> Value) -> World -> Prop} {i : Nat} {a : Act} {W : World} {xs : Nat -> Value} (h : EnvX ops a0 V i a W xs) (t : Nat) (h1 : keepsB ops i (.tmp t) = true := by kernel_rfl) : a.eval (.tmp t) = a0.eval (.tmp t) := h.keep _ h1
theorem wpAnyIn_tailX {F : Fence} (hF : Wide F) {n : Nat} {ops : Array Oper} (hp : plainAll ops = true) (hd : dstsB ops = true) (hb : backB ops = true) (ha : ancB ops = true) {a0 : Act} (hin : dstIn ops a0.tmps.size = true) {w : World} {m : Nat} (hm : ops.size = m + 1) {last : Oper} (hlast : ops[m]? = some last)
  (E : Nat -> World -> World -> Prop) (G : World -> World -> Prop) (hEr : ∀ i W, E i W W) (hG : ∀ i W W', G w W -> E i W W' -> G w W') (V : Nat -> (Nat -> Value) -> World -> Prop) (hV : ∀ i j xs v W W', j < ops.size -> j ≠ i -> waits ops j i = false -> V j xs W -> E i W W' -> V j (upd xs i v) W')
  (step : ∀ i o a W xs, i < m -> ops[i]? = some o -> G w W -> EnvX ops a0 V i a W xs -> StepOkE P ops Q (E i) o a W (fun v W' => V i (upd xs i v) W'))
  (fin : ∀ xs W, G w W -> (∀ j, j < m -> V j xs W) -> (∀ x, keepsB ops m x = true -> (putL (ops.toList.take m) 0 xs a0).eval x = a0.eval x) -> (∀ j t, j < m -> dstOf ops j = some t -> (putL (ops.toList.take m) 0 xs a0).eval (.tmp t) = xs j) ->
   if Region.wanted last (yielded ops (putL (ops.toList.take m) 0 xs a0).tmps) then last.wp P (putL (ops.toList.take m) 0 xs a0) W (fun a' W' => Q .normal a' W') Q else Q .normal ((putL (ops.toList.take m) 0 xs a0).put last.dst undef) W) :
  ∀ (fuel : Nat) (l : Array Bool) (a : Act) (W : World), l.toList.count false <= fuel -> l.getD m false = false -> InvX G ops a0 w V l a W -> wpAnyIn F n P .any ops Q fuel l a W := by
 have hlaid : ∀ (l : Array Bool) (xs : Nat -> Value), l.getD m false = false -> (∀ i, i < m -> l.getD i false = true) -> laid ops a0 l xs ops.size = putL (ops.toList.take m) 0 xs a0 := fun l xs hf hl => by
  rw [hm, laid, if_neg (by rw [hf]; simp)]
  have key : ∀ (os : List Oper) (k : Nat), k + os.length = m -> (∀ j, j < os.length -> os[j]? = ops[k + j]?) -> putL os k xs (laid ops a0 l xs k) = laid ops a0 l xs m := by
   intro os
   induction os with
   | nil => intro k hk _; rw [show m = k from by simpa using hk.symm]; rfl
   | cons o os ih =>
    intro k hk hos
    rw [putL]
    have h0 : ops[k]? = some o := by have := hos 0 (by simp); simpa using this.symm
    have e : (laid ops a0 l xs k).put o.dst (xs k) = laid ops a0 l xs (k + 1) := by
     rw [laid, if_pos (hl k (by simp at hk; omega))]
     unfold dstOf
     rw [h0]
    rw [e]
    refine ih (k + 1) (by simp at hk; omega) (fun j hj => ?_)
    have := hos (j + 1) (by simp; omega)
    rw [List.getElem?_cons_succ] at this
    rw [this]
    congr 1
    omega
  refine (key (ops.toList.take m) 0 (by simp; omega) (fun j hj => ?_)).symm
  rw [List.getElem?_take_of_lt (by simp at hj; omega)]
  simp
 intro fuel
 induction fuel with
 | zero =>
  intro l a W hc hlf hI
  exfalso
  have hmm : m < l.size := by rw [hI.size]; omega
  have hmem : false ∈ l.toList := by
   have : l[m] = false := by simpa [Array.getD, hmm] using hlf
   rw [<- this]; exact Array.mem_toList_iff.2 (Array.getElem_mem hmm)
  have := List.count_pos_iff.2 hmem
  omega
 | succ fuel ih =>
  intro l a W hc hlf hI
  refine ⟨fun hr => ?_, fun i hi => ?_⟩
  ·have := ready_nil hb hI.size hr m (by omega)
   rw [hlf] at this; cases this
  obtain ⟨h1, o, ho, hdeps⟩ := mem_ready.1 hi
  have hlt : i < ops.size := (Array.getElem?_eq_some_iff.1 ho).1
  have hi' : i < l.size := by rw [hI.size]; exact hlt
  have hf : l.getD i false = false := by simp [Array.getD, hi'] at h1 ⊢; exact h1
  obtain ⟨xs, rfl, hx⟩ := hI.act
  have hdst : dstOf ops i = o.dst := by unfold dstOf; rw [ho]
  have hwl : ∀ j, waits ops i j = true -> l.getD j false = true := fun j hw => by
   unfold waits at hw
   rw [ho] at hw
   obtain ⟨k, hk, h2⟩ := Array.any_eq_true.1 hw
   simp at h2
   rw [<- h2.2]
   exact hdeps _ (Array.getElem_mem hk) h2.1
  have hjlt : ∀ j t, dstOf ops j = some t -> j < ops.size := fun j t h => by
   unfold dstOf at h
   cases hj : ops[j]? with
   | none => rw [hj] at h; cases h
   | some o' => exact (Array.getElem?_eq_some_iff.1 hj).1
  have hts : ∀ j t, dstOf ops j = some t -> t < a0.tmps.size := fun j t h => by
   unfold dstIn at hin
   rw [List.all_eq_true] at hin
   have := hin j (List.mem_range.2 (hjlt j t h))
   rw [h] at this
   simpa using this
  have hkeep : ∀ x, keepsB ops i x = true -> (laid ops a0 l xs ops.size).eval x = a0.eval x := fun x hk => laid_keep x _ (fun j d hj hjd hl hx' => by
    subst hx'
    unfold keepsB at hk
    rw [List.all_eq_true] at hk
    have h3 := hk j (List.mem_range.2 hj)
    rw [hjd] at h3
    simp at h3
    rcases h3 with h3 | h3
    ·subst h3; rw [hf] at hl; cases hl
    ·have := hI.closed j i hl h3
     rw [hf] at this; cases this)
  have hget : ∀ j t, l.getD j false = true -> dstOf ops j = some t -> (laid ops a0 l xs ops.size).eval (.tmp t) = xs j := fun j t hl ht => laid_get hd ht hl (hts j t ht) _ (Nat.le_refl _) (hjlt j t ht)
  by_cases him : i = m
  ·subst him
   have hall := anc_all ha hI.closed (by rw [hm]; simpa using hwl)
   rw [hm] at hall
   have hall' : ∀ j, j < i -> l.getD j false = true := fun j hj => hall j (by omega)
   obtain rfl : o = last := by rw [ho] at hlast; exact Option.some.inj hlast
   have hf2 := fin xs W hI.later (fun j hj => hx j (by omega) (hall' j hj)) (fun x hk => by rw [<- hlaid l xs hf hall']; exact hkeep x hk) (fun j t hj ht => by rw [<- hlaid l xs hf hall']; exact hget j t (hall' j hj) ht)
   rw [<- hlaid l xs hf hall'] at hf2
   have hend : ∀ a' W', Q .normal a' W' -> wpAnyIn F n P .any ops Q fuel (l.setIfInBounds i true) a' W' := fun a' W' hq => by
    refine wpAnyIn_done ?_ hq _
    rw [List.eq_nil_iff_forall_not_mem]
    intro k hk
    obtain ⟨h1, o', ho', _⟩ := mem_ready.1 hk
    have hklt : k < ops.size := (Array.getElem?_eq_some_iff.1 ho').1
    have hk' : k < (l.setIfInBounds i true).size := by rw [Array.size_setIfInBounds, hI.size]; exact hklt
    have h2 : (l.setIfInBounds i true).getD k false = true := by
     by_cases e : k = i
     ·subst e; simp [Array.getD, hi']
     ·exact getD_set_true (hall' k (by omega))
    generalize l.setIfInBounds i true = l' at *
    simp [Array.getD, hk'] at h1 h2
    rw [h2] at h1
    cases h1
   unfold wpOpIn
   rw [ho]
   simp only
   split
   ·rename_i hw
    rw [if_pos hw] at hf2
    exact Oper.wpIn_mono (fun a' W' h => hend a' W' h) (opIn_of_op hF (plainAll_get hp ho) hf2)
   ·rename_i hw
    rw [if_neg hw] at hf2
    exact ⟨fun f _ => hF.fn f, hend _ _ hf2⟩
  ·have henv : EnvX ops a0 V i (laid ops a0 l xs ops.size) W xs := ⟨hkeep, fun j t hw ht => hget j t (hwl j hw) ht, fun j hj hw => hx j hj (hwl j hw)⟩
   have hs := step i o _ W xs (by omega) ho hI.later henv
   have hset : ∀ j, j ≠ i -> (l.setIfInBounds i true).getD j false = l.getD j false := fun j hj => getD_set_ne false (fun e => hj e.symm)
   have next : ∀ v W', E i W W' -> V i (upd xs i v) W' -> InvX G ops a0 w V (l.setIfInBounds i true) ((laid ops a0 l xs ops.size).put o.dst v) W' := fun v W' hL hv => by
    refine ⟨by simpa using hI.size, fun p q hp hw => ?_, hG i _ _ hI.later hL, upd xs i v, ?_, fun j hj hl => ?_⟩
    ·by_cases e : p = i
     ·subst e
      exact getD_set_true (hwl q hw)
     ·rw [hset p e] at hp
      exact getD_set_true (hI.closed p q hp hw)
    ·rw [<- hdst]
     exact laid_put hd v hi' hf _ (Nat.le_refl _) hlt
    ·by_cases e : j = i
     ·subst e; exact hv
     ·rw [hset j e] at hl
      have hwf : waits ops j i = false := by
       cases hwj : waits ops j i
       ·rfl
       ·have := hI.closed j i hl hwj
        rw [hf] at this; cases this
      exact hV i j xs v W W' hj e hwf (hx j hj hl) hL
   have hcnt : (l.setIfInBounds i true).toList.count false <= fuel := by
    have hil : i < l.toList.length := by simpa using hi'
    have hlv : l.toList[i] = false := by simpa [Array.getD, hi'] using hf
    have := List.count_set (a := true) (b := false) (l := l.toList) (i := i) hil
    rw [Array.toList_setIfInBounds, this, hlv, if_pos (show (false == false) = true from rfl), if_neg (show ¬ (true == false) = true from by decide)]
    have hp : 0 < l.toList.count false := List.count_pos_iff.2 (by rw [<- hlv]; exact List.getElem_mem hil)
    omega
   have hlf' : (l.setIfInBounds i true).getD m false = false := by rw [hset m (fun e => him e.symm)]; exact hlf
   unfold wpOpIn
   rw [ho]
   unfold StepOkE at hs
   simp only
   split
   ·rename_i hw
    rw [if_pos hw] at hs
    refine Oper.wpIn_mono (fun a' W' h => ?_) (opIn_of_op hF (plainAll_get hp ho) hs)
    obtain ⟨v, rfl, hL, hv⟩ := h
    exact ih _ _ _ hcnt hlf' (next v W' hL hv)
   ·rename_i hw
    rw [if_neg hw] at hs
    exact ⟨fun f _ => hF.fn f, ih _ _ _ hcnt hlf' (next undef W (hEr i W) hs)⟩
theorem wpIn_region_tailX {F : Fence} (hF : Wide F) {n : Nat} {id : Nat} {l : List Oper} {last : Oper} {a0 : Act} {w : World} (E : Nat -> World -> World -> Prop) (G : World -> World -> Prop) (hEr : ∀ i W, E i W W) (hG : ∀ i W W', G w W -> E i W W' -> G w W') (hG0 : G w w.drew) (V : Nat -> (Nat -> Value) -> World -> Prop) (hV : ∀ i j xs v W W', j < (l ++ [last]).toArray.size -> j ≠ i -> waits (l ++ [last]).toArray j i = false -> V j xs W -> E i W W' -> V j (upd xs i v) W') (hm : P.follows .mixedOrders = true) (hp : plainAll (l ++ [last]).toArray = true) (hd : dstsB (l ++ [last]).toArray = true) (hb : backB (l ++ [last]).toArray = true) (ha : ancB (l ++ [last]).toArray = true) (hin : dstIn (l ++ [last]).toArray a0.tmps.size = true)
  (step : AllFrom (fun i o => ∀ a W xs, G w W -> EnvX (l ++ [last]).toArray a0 V i a W xs -> StepOkE P (l ++ [last]).toArray Q (E i) o a W (fun v W' => V i (upd xs i v) W')) 0 l) (hg : last.guard = none)
  (fin : ∀ xs W, G w W -> (∀ j, j < l.length -> V j xs W) -> (∀ x, keepsB (l ++ [last]).toArray l.length x = true -> (putL l 0 xs a0).eval x = a0.eval x) -> (∀ j t, j < l.length -> dstOf (l ++ [last]).toArray j = some t -> (putL l 0 xs a0).eval (.tmp t) = xs j) ->
   last.wp P (putL l 0 xs a0) W (fun a' W' => Q .normal a' W') Q) : (Code.region id (l ++ [last]).toArray true).wpIn F n P Q a0 w := by
 have htake : (l ++ [last]).toArray.toList.take l.length = l := by simp
 refine wpIn_region_any hm (wpAnyIn_tailX hF hp hd hb ha hin (m := l.length) (last := last) (by simp) (by simp) E G hEr hG V hV (fun i o a W xs hi ho hL he => ?_) (fun xs W hL hx hk hg' => ?_) _ _ _ _ ?_ ?_ ⟨by simp, fun i j hi _ => ?_, hG0, fun _ => undef, ?_, fun j hj hl => ?_⟩)
 ·have h := allFrom_get l 0 step i o (by
   rw [List.getElem?_toArray, List.getElem?_append_left hi] at ho
   exact ho)
  rw [Nat.zero_add] at h
  exact h a W xs hL he
 ·rw [htake] at hk hg' ⊢
  rw [if_pos (by unfold Region.wanted; rw [hg])]
  exact fin xs W hL hx hk hg'
 ·simp
 ·simp [Array.getD]
 ·exfalso
  simp [Array.getD] at hi
 ·have : ∀ k, laid (l ++ [last]).toArray a0 (Array.replicate (l ++ [last]).toArray.size false) (fun _ => undef) k = a0 := fun k => by
   induction k with
   | zero => rfl
   | succ k ih => rw [laid, if_neg (by simp [Array.getD]), ih]
  exact (this _).symm
 ·exfalso
  simp [Array.getD] at hl
theorem wpIn_region_lastX {F : Fence} (hF : Wide F) {n : Nat} {id : Nat} {o : Oper} {os : List Oper} {a0 : Act} {w : World} (E : Nat -> World -> World -> Prop) (G : World -> World -> Prop) (hEr : ∀ i W, E i W W) (hG : ∀ i W W', G w W -> E i W W' -> G w W') (hG0 : G w w.drew) (V : Nat -> (Nat -> Value) -> World -> Prop) (hV : ∀ i j xs v W W', j < (o :: os).toArray.size -> j ≠ i -> waits (o :: os).toArray j i = false -> V j xs W -> E i W W' -> V j (upd xs i v) W') (hm : P.follows .mixedOrders = true) (hp : plainAll (o :: os).toArray = true) (hd : dstsB (o :: os).toArray = true) (hb : backB (o :: os).toArray = true) (ha : ancB (o :: os).toArray = true) (hin : dstIn (o :: os).toArray a0.tmps.size = true) (hg : (lastL o os).guard = none)
  (step : AllFrom (fun i o' => ∀ a W xs, G w W -> EnvX (o :: os).toArray a0 V i a W xs -> StepOkE P (o :: os).toArray Q (E i) o' a W (fun v W' => V i (upd xs i v) W')) 0 (initL o os))
  (fin : ∀ xs W, G w W -> (∀ j, j < (initL o os).length -> V j xs W) -> (∀ x, keepsB (o :: os).toArray (initL o os).length x = true -> (putL (initL o os) 0 xs a0).eval x = a0.eval x) -> (∀ j t, j < (initL o os).length -> dstOf (o :: os).toArray j = some t -> (putL (initL o os) 0 xs a0).eval (.tmp t) = xs j) ->
   LastOk P (lastL o os) (putL (initL o os) 0 xs a0) W Q) : (Code.region id (o :: os).toArray true).wpIn F n P Q a0 w := by
 have e := init_last os o
 rw [<- e] at hp hd hb ha hin hV step fin ⊢
 exact wpIn_region_tailX hF E G hEr hG hG0 V hV hm hp hd hb ha hin step hg (fun xs W hL hx hk hg' => (fin xs W hL hx hk hg').run)
end
section
variable {F : Fence} {n : Nat} {P : Program}
theorem wpIn_range_D {α : Type} {g : Operand} {ps : Array Tmp} {assign body : Code} {Q : Exit -> Act -> World -> Prop} {a : Act} {w : World}
  (hro : F.round = none) (h1 : 1 <= n) {gf : Nat} {lb : Array Value} (hg : a.eval g = .func (.func gf) #[] lb) (hFg : F.fn gf) (eg : ∀ args w, (callFunc gf args).run P w = .ok (.enter gf args) w)
  {encs : α -> Array Value} {Kp : World -> World -> Prop} {S Sp : List α -> Prop} {Ok : List α -> α -> Prop} {C : Nat -> Prop} {w0 : World} (hseq : SeqC F (n - 1) P gf lb encs Kp S Sp Ok C w0)
  (hC : ∀ r, C r -> r < w.heap.size) (hKt : ∀ {A B D : World}, Kp A B -> Kp B D -> Kp A D) (hKb : ∀ (W : World) (l : Nat) (o ob : Obj), w.heap.size <= l -> W.heap[l]? = some ob -> ob.isCells = false -> Kp W (W.putObj l o)) (hb0 : Below w0.heap.size w0 w) (hps : ∀ x, (encs x).size = ps.size)
  (I : List α -> World -> Prop) (Ix : Code -> List α -> World -> Prop) (hI : Stab w.heap.size C I) (hIx : ∀ c, Stab w.heap.size C (Ix c)) (h0 : I [] w)
  (Ax : List α -> α -> Act -> World -> Prop) (hAx : ∀ pre x a', Stab w.heap.size C (fun (_ : Unit) W => Ax pre x a' W))
  (hassign : ∀ (l : Nat) (pre : List α) (x : α) (W : World) (K : Act -> World -> Prop), I pre W -> Ok pre x -> (∀ a' Y, KeepsFrom w.heap.size W Y -> Kp W Y -> I pre Y -> Ax pre x a' Y -> K a' Y) ->
   assign.wpIn (F.inRound l) (n - 1 - 1) P (Exit.then K (fun _ _ _ => False)) { tmps := (ps.zip (encs x)).foldl (fun t (p, v) => t.setIfInBounds p v) a.tmps, defers := [] } W)
  (hbody : ∀ (l : Nat) (pre : List α) (x : α) (a' : Act) (W : World), w.heap.size <= l -> (∃ r, W.heap[l]? = some (.loop r)) -> I pre W -> Ok pre x -> Ax pre x a' W -> body.wpIn (F.inRound l) (n - 1 - 1) P (leftC w.heap.size Kp I Ix (pre ++ [x]) W) a' W)
  (hdone : ∀ (D : Nat) (xs : List α) (W : World), w.heap.size <= D -> S xs -> I xs W -> W.heap[D]? = some (.deferred (some [])) -> Q .normal { a with defers := { target := .collected D, args := #[] } :: a.defers } W)
  (hstop : ∀ (D : Nat) (c : Code) (pre : List α) (W : World), w.heap.size <= D -> Sp pre -> Ix c pre W -> W.heap[D]? = some (.deferred (some [])) -> c.wpIn F n P Q { a with defers := { target := .collected D, args := #[] } :: a.defers } W) :
  (Code.rangeFunc g ps assign body).wpIn F n P Q a w := by
 refine wpIn_rangeFunc fun fn hfn => ?_
 rw [hro]
 have book1 : Booked (bookOf fn a.tmps ps assign body w.heap.size) w.heap.size .ready none ((w.alloc (.deferred (some []))).alloc (.loop (bookOf fn a.tmps ps assign body w.heap.size .ready none))) := by
  refine ⟨?_, (Below.heap_alloc _ _ _ (by simp)).trans (World.alloc_heap_new w _)⟩
  have := World.alloc_heap_new (w.alloc (.deferred (some []))) (.loop (bookOf fn a.tmps ps assign body w.heap.size .ready none))
  rwa [World.size_alloc] at this
 have hb1 : Below w0.heap.size w0 ((w.alloc (.deferred (some []))).alloc (.loop (bookOf fn a.tmps ps assign body w.heap.size .ready none))) :=
  hb0.trans ((((Below.refl _ w).alloc (Nat.le_refl _) _).alloc (by simp) _).mono hb0.size)
 have hi1 := hI.alloc (.loop (bookOf fn a.tmps ps assign body w.heap.size .ready none)) (hI.alloc (.deferred (some [])) h0)
 have henter := run_enterLoop_outer (P := P) (w := w) fn a.tmps ps assign body
 generalize hW1 : (w.alloc (.deferred (some []))).alloc (.loop (bookOf fn a.tmps ps assign body w.heap.size .ready none)) = W1 at book1 hb1 hi1
 refine ⟨w.heap.size + 1, [{ target := .collected w.heap.size, args := #[] }], W1, { target := .fn (.func gf) lb, args := #[.func (.yield (w.heap.size + 1)) #[] #[]] }, W1, gf,
  #[.func (.yield (w.heap.size + 1)) #[] #[]] ++ lb, W1, ?_, ?_, ?_, ?_, fun _ => h1, ?_⟩
 ·rw [<- hW1]; exact henter
 ·simp only [resolve, hg]; simp [go_sem]
 ·intro f' hf'; simp [Target.leads] at hf'; subst hf'; exact hFg
 ·simp [invoke, go_sem, eg]
 clear henter hW1
 refine (hseq (w.heap.size + 1) (fun pre W => I pre W /\ Booked (bookOf fn a.tmps ps assign body w.heap.size) w.heap.size .ready none W)
  (fun pre W => ∃ c, Ix c pre W /\ Booked (bookOf fn a.tmps ps assign body w.heap.size) w.heap.size .done (some c) W) W1 hb1
  (fun s X Y row hs hgr hr => ⟨hI.abC s X Y row hs.1 hgr hr, hs.2.grown hgr (fun r e => hC r (hr r e))⟩)
  (fun s X Y row hs hgr hr => by obtain ⟨c, hc, hk⟩ := hs; exact ⟨c, (hIx c).abC s X Y row hc hgr hr, hk.grown hgr (fun r e => hC r (hr r e))⟩)
  (fun pre x X hX hok => ?_) ⟨hi1, book1⟩).mono ?_
 ·obtain ⟨hi, hbk⟩ := hX
  refine ⟨fn, _, assign, body, run_yield (P := P) (args := encs x) hbk.loop (hps x), roundIn_of_wpIn hfn (hassign _ pre x X _ hi hok ?_)⟩
  intro a' Y hkf hkp hiY hax
  have hbY := hbk.keeps hkf
  refine ⟨_, run_beginRound hbY.loop rfl, ?_⟩
  have hbZ : Booked (bookOf fn a.tmps ps assign body w.heap.size) w.heap.size .busy none (Y.putObj (w.heap.size + 1) (.loop { bookOf fn a.tmps ps assign body w.heap.size .ready none with state := .busy })) := hbY.turn
  refine wpIn_mono (hbody _ pre x a' _ (by omega) ⟨_, hbZ.loop⟩ (hI.put _ hiY (by omega) hbY.loop rfl) hok ((hAx pre x a').put (s := ()) _ hax (by omega) hbY.loop rfl)) ?_
  have fin : ∀ (jump : Option Code) (Z : World), KeepsFrom w.heap.size (Y.putObj (w.heap.size + 1) (.loop { bookOf fn a.tmps ps assign body w.heap.size .ready none with state := .busy })) Z ->
    (Instr.endRound (w.heap.size + 1) jump).run P Z = .ok (.bool jump.isNone) (Z.putObj (w.heap.size + 1) (.loop (bookOf fn a.tmps ps assign body w.heap.size (if jump.isNone then .ready else .done) jump))) /\
    Booked (bookOf fn a.tmps ps assign body w.heap.size) w.heap.size .busy none Z := fun jump Z hkZ =>
   ⟨run_endRound (P := P) jump (hbZ.keeps hkZ).loop, hbZ.keeps hkZ⟩
  rintro e a3 Z hp
  cases e with
  | normal =>
   obtain ⟨hk3, hkp3, hi3⟩ := hp
   obtain ⟨hr, hb3⟩ := fin none Z hk3
   exact ⟨_, _, hr, .inl ⟨rfl, ⟨hI.put _ hi3 (by omega) hb3.loop rfl, hb3.turn⟩, hKt hkp (hKt (hKt (hKb _ _ _ _ (by omega) hbY.loop rfl) hkp3) (hKb _ _ _ _ (by omega) hb3.loop rfl))⟩⟩
  | ret =>
   obtain ⟨hk3, hi3⟩ := hp
   obtain ⟨hr, hb3⟩ := fin (some .ret) Z hk3
   exact ⟨_, _, hr, .inr ⟨rfl, .ret, (hIx _).put _ hi3 (by omega) hb3.loop rfl, hb3.turn⟩⟩
  | exit id =>
   obtain ⟨hk3, hi3⟩ := hp
   obtain ⟨hr, hb3⟩ := fin (some (.exit id)) Z hk3
   exact ⟨_, _, hr, .inr ⟨rfl, .exit id, (hIx _).put _ hi3 (by omega) hb3.loop rfl, hb3.turn⟩⟩
  | goto t =>
   obtain ⟨hk3, hi3⟩ := hp
   obtain ⟨hr, hb3⟩ := fin (some (.goto t)) Z hk3
   exact ⟨_, _, hr, .inr ⟨rfl, .goto t, (hIx _).put _ hi3 (by omega) hb3.loop rfl, hb3.turn⟩⟩
  | panic ch => exact hp.elim
  | outgrown => exact hp.elim
 ·rintro e W2 ⟨⟨v, rfl⟩, (⟨xs, hS, hi, hbk⟩ | ⟨pre, hSp, c, hi, hbk⟩)⟩
  ·exact ⟨none, _, run_endLoop (P := P) hbk.loop (by simp [bookOf]), hdone _ xs _ (Nat.le_refl _) hS (hI.put _ hi (by omega) hbk.loop rfl) ((World.putObj_heap_other (by omega)).trans hbk.defs)⟩
  ·exact ⟨some c, _, run_endLoop (P := P) hbk.loop (by simp [bookOf]), hstop _ c pre _ (Nat.le_refl _) hSp ((hIx c).put _ hi (by omega) hbk.loop rfl) ((World.putObj_heap_other (by omega)).trans hbk.defs)⟩
end
def OwnQ (U : TypeId) (w : World) (base : Nat) (v : Value) (l : List UInt8) : Prop :=
 ∃ g cap cur, ∃ fr : Nat × Nat, v = .slice (some ⟨g, 0, none⟩) l.length cap /\ base <= g /\ w.heap[g]? = some (.cells cur U fr) /\ (∀ i, i < cur.size -> ¬ (fr.1 <= i /\ i < fr.2)) /\ l.length <= cap /\ cap <= maxLen /\ cur.size = cap /\ cur.toList.take l.length = l.map byteV
section
variable {U : TypeId} {w w' : World} {base : Nat} {v : Value} {l : List UInt8}
theorem OwnQ.slice (h : OwnQ U w base v l) : ∃ g c, v = .slice (some ⟨g, 0, none⟩) l.length c /\ l.length <= c /\ c <= 9223372036854775807 /\ base <= g /\ Rd w (some ⟨g, 0, none⟩) l := by
 obtain ⟨g, cap, cur, fr, rfl, h1, h2, h3, h4, h5, h6, h7⟩ := h
 refine ⟨g, cap, rfl, h4, by unfold maxLen at h5; omega, h1, fun _ => ⟨g, 0, rfl, fun i hi => ?_⟩⟩
 rw [cell_of_row w g (0 + i) cur U fr h2, Nat.zero_add]
 have : (cur.toList.take l.length)[i]? = (l.map byteV)[i]? := by rw [h7]
 rw [List.getElem?_take_of_lt hi, Array.getElem?_toList, List.getElem?_map, List.getElem?_eq_getElem hi] at this
 exact this
end
end Go.Proofs.YtloiaaolnfimgaaGreat
