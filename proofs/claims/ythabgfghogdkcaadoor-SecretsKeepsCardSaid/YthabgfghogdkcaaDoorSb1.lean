/- Joined: Words, Bytes, Later, Order, Order2, OrderIn, Order3, Range, Law, ShaMath, Ops, ShaW1, ShaW2, ShaW3, ShaW4, ShaW5, ShaW6, ShaW7, AppZ, ShaR1. -/
import Derived.WalkKit
import Derived.WalkSpells
import Derived.Deep.MidRow
import Derived.Deep.WholeRow
import Derived.Deep.Draws
import Derived.Maps.AppendAt
import Derived.Lib.Hide
import Derived.OwnWalk
import Derived.Laws.IdiomStrings
import Derived.Lib.SlBytesConst
import Derived.Orders
import Derived.Shelf.Abstract
import Derived.OrdersIn
import Derived.RangeFuncCalls
import Derived.RangeFuncNested
import Derived.RangeFuncBound
import Derived.RangeFuncLeaves
import Derived.Shelf.RegionOpen
import Derived.OwnWalkIn
import Derived.TacticsInMore
import Derived.LoopNIn
import Derived.LoopIn
import Derived.WalkMore
import Derived.Test.YthabgfghogdkcaaDoorRows
import Derived.ProofKit
import Derived.OpenShut
import Derived.Deep.Slices
import Derived.Deep.Matrix
import Derived.Laws.BitsAllLaws
import Derived.IntWalk
import Derived.WalkLawsBesides
import Derived.BigRegion
import Derived.BigQuiet
import Derived.Outline
import Derived.Laws.EntriesVeiled
import Derived.Deep.DeepCutAuto
import Derived.Lib.AppendZeros
import Derived.Laws.CopyOwn
set_option linter.unusedVariables false
set_option linter.unusedSimpArgs false
namespace Go.Proofs.YthabgfghogdkcaaDoor
open Go.RowKit

def Row (w : World) (g : Nat) (t : TypeId) (cs : Array Value) : Prop := w.heap[g]? = some (.cells cs t (0, 0))

section
variable {w w' : World} {g : Nat} {t : TypeId} {cs : Array Value}
theorem Row.lt (h : Row w g t cs) : g < w.heap.size := (Array.getElem?_eq_some_iff.1 h).1
theorem Row.cell (h : Row w g t cs) (i : Nat) : w.cell? ⟨g, i, none⟩ = cs[i]? := cell_of_row w g i cs t (0, 0) h
theorem Row.frozen (h : Row w g t cs) (i : Nat) : w.frozen? ⟨g, i, none⟩ = false := frozen_of_row w g i cs t h
theorem Row.new (w : World) (t : TypeId) (cs : Array Value) : Row (w.alloc (.cells cs t)) w.heap.size t cs := heap_alloc_new w _
theorem Row.alloc (h : Row w g t cs) (o : Obj) : Row (w.alloc o) g t cs := (Below.heap_alloc w o g h.lt).trans h
theorem Row.drewN (h : Row w g t cs) (n : Nat) : Row (w.drewN n) g t cs := h
theorem Row.drew (h : Row w g t cs) : Row w.drew g t cs := h
theorem Row.set (h : Row w g t cs) (i : Nat) (u : Value) : Row (w.setCell ⟨g, i, none⟩ u) g t (cs.setIfInBounds i u) := heap_setCell_same w g i cs t u h
theorem Row.far (h : Row w g t cs) {p : Addr} (hp : g ≠ p.block) (u : Value) : Row (w.setCell p u) g t cs := (heap_setCell_other w p g u hp).trans h
theorem Row.below {B : Nat} (h : Row w g t cs) (hb : Below B w w') (hg : g < B) : Row w' g t cs := (hb.block g hg).trans h
theorem Row.belowAll (h : Row w g t cs) (hb : Below w.heap.size w w') : Row w' g t cs := h.below hb h.lt
theorem Row.grown {row : Option Nat} (h : Row w g t cs) (hb : w.grownBy w' row) (hg : some g ≠ row) : Row w' g t cs := (hb.block g h.lt hg).trans h
end

theorem grown_refl (w : World) (row : Option Nat) : w.grownBy w row := ⟨rfl, rfl, rfl, Nat.le_refl _, fun _ _ _ => rfl⟩
theorem grown_trans {a b c : World} {row : Option Nat} (h : a.grownBy b row) (k : b.grownBy c row) : a.grownBy c row :=
  ⟨k.os.trans h.os, k.tape.trans h.tape, k.output.trans h.output, Nat.le_trans h.size k.size, fun i hi hn => (k.block i (Nat.lt_of_lt_of_le hi h.size) hn).trans (h.block i hi hn)⟩
theorem grown_set (w : World) (g i : Nat) (u : Value) : w.grownBy (w.setCell ⟨g, i, none⟩ u) (some g) :=
  ⟨rfl, rfl, rfl, by simp [World.setCell], fun k _ hn => heap_setCell_other w _ k u (fun e => hn (by rw [e]))⟩
theorem grown_drew {a b : World} {row : Option Nat} (h : a.grownBy b row) : a.grownBy b.drew row := ⟨h.os, h.tape, h.output, h.size, h.block⟩
theorem grown_drewN {a b : World} {row : Option Nat} (h : a.grownBy b row) (n : Nat) : a.grownBy (b.drewN n) row := ⟨h.os, h.tape, h.output, h.size, h.block⟩
theorem below_of_grown {w w' : World} {g B : Nat} (h : w.grownBy w' (some g)) (hB : B ≤ g) (hs : B ≤ w.heap.size) : Below B w w' :=
  ⟨h.os, h.tape, h.output, h.size, fun k hk => h.block k (by omega) (fun e => by injection e; omega)⟩

abbrev byteV (c : UInt8) : Value := .int .u8 (c.toNat : Int)
/-- A slice's address, with as many elements as the list has: it reads as these bytes. -/
def Rd (w : World) (A : Option Addr) (l : List UInt8) : Prop :=
  l ≠ [] → ∃ b o, A = some ⟨b, o, none⟩ ∧ ∀ i (h : i < l.length), w.cell? ⟨b, o + i, none⟩ = some (byteV l[i])

section
variable {w w' : World} {A : Option Addr} {l : List UInt8}
theorem Rd.nil (w : World) (A : Option Addr) : Rd w A [] := fun h => absurd rfl h
theorem Rd.keep (h : Rd w A l) (hk : ∀ b, (∃ o v, w.cell? ⟨b, o, none⟩ = some v) → w'.heap[b]? = w.heap[b]?) : Rd w' A l := fun hl => by
  obtain ⟨b, o, e, hc⟩ := h hl
  refine ⟨b, o, e, fun i hi => ?_⟩
  rw [World.cell?_of_block (w := w) (hk b ⟨o + i, _, hc i hi⟩)]
  exact hc i hi
theorem Rd.below (h : Rd w A l) (hb : Below w.heap.size w w') : Rd w' A l := h.keep fun b ⟨_, _, hc⟩ => hb.block b (block_lt_of_cell hc)
theorem Rd.alloc (h : Rd w A l) (o : Obj) : Rd (w.alloc o) A l := h.keep fun b ⟨_, _, hc⟩ => Below.heap_alloc w o b (block_lt_of_cell hc)
theorem Rd.drewN (h : Rd w A l) (n : Nat) : Rd (w.drewN n) A l := h
theorem Rd.drew (h : Rd w A l) : Rd w.drew A l := h
theorem Rd.at_ (h : Rd w A l) {k : Nat} (hk : k < l.length) : ∃ b o, A = some ⟨b, o, none⟩ ∧ w.cell? ⟨b, o + k, none⟩ = some (byteV l[k]) := by
  obtain ⟨b, o, e, hc⟩ := h (by intro e; subst e; simp at hk)
  exact ⟨b, o, e, hc k hk⟩
end

/-- A slice of such slices. -/
def Rds (w : World) (A : Option Addr) (ls : List (List UInt8)) : Prop :=
  ls ≠ [] → ∃ b o, A = some ⟨b, o, none⟩ ∧ ∀ i (h : i < ls.length), ∃ Ai ci, w.cell? ⟨b, o + i, none⟩ = some (.slice Ai ls[i].length ci) ∧ Rd w Ai ls[i]
section
variable {w w' : World} {A : Option Addr} {ls : List (List UInt8)}
theorem Rds.nil (w : World) (A : Option Addr) : Rds w A [] := fun h => absurd rfl h
theorem Rds.keep (h : Rds w A ls) (hk : ∀ b, (∃ o v, w.cell? ⟨b, o, none⟩ = some v) → w'.heap[b]? = w.heap[b]?) : Rds w' A ls := fun hl => by
  obtain ⟨b, o, e, hc⟩ := h hl
  refine ⟨b, o, e, fun i hi => ?_⟩
  obtain ⟨Ai, ci, h1, h2⟩ := hc i hi
  refine ⟨Ai, ci, ?_, h2.keep hk⟩
  rw [World.cell?_of_block (w := w) (hk b ⟨o + i, _, h1⟩)]
  exact h1
theorem Rds.below (h : Rds w A ls) (hb : Below w.heap.size w w') : Rds w' A ls := h.keep fun b ⟨_, _, hc⟩ => hb.block b (block_lt_of_cell hc)
theorem Rds.alloc (h : Rds w A ls) (o : Obj) : Rds (w.alloc o) A ls := h.keep fun b ⟨_, _, hc⟩ => Below.heap_alloc w o b (block_lt_of_cell hc)
theorem Rds.at_ (h : Rds w A ls) {k : Nat} (hk : k < ls.length) : ∃ b o Ai ci, A = some ⟨b, o, none⟩ ∧ w.cell? ⟨b, o + k, none⟩ = some (.slice Ai ls[k].length ci) ∧ Rd w Ai ls[k] := by
  obtain ⟨b, o, e, hc⟩ := h (by intro e; subst e; simp at hk)
  obtain ⟨Ai, ci, h1, h2⟩ := hc k hk
  exact ⟨b, o, Ai, ci, e, h1, h2⟩
theorem Rd.lt {A : Option Addr} {l : List UInt8} (h : Rd w A l) {b o : Nat} (e : A = some ⟨b, o, none⟩) (hl : l ≠ []) : b < w.heap.size := by
  obtain ⟨b', o', e', hc⟩ := h hl
  rw [e] at e'
  injection e' with e'
  injection e' with e1 e2
  have hlen : 0 < l.length := List.length_pos_iff.2 hl
  rw [e1]
  exact block_lt_of_cell (hc 0 hlen)
end

section
variable {P : Program} {ops : Array Oper} {rest : List Oper} {o : Oper} {a : Act} {w : World} {Q : Exit → Act → World → Prop}
theorem wpList_alloc (hgd : o.guard = none) (T : TypeId) (ho : o.op = .alloc T) {v : Value} {w' : World} (hr : (Instr.alloc T true (.tuple #[])).run P w = .ok v w')
    (h : wpList P ops Q rest (a.put o.dst v) w') : wpList P ops Q (o :: rest) a w :=
  wpList_plain hgd fun _ hK => by
    unfold Oper.wp execOp
    simp only [ho, Sem.run_bind, Sem.run_pure, Result.andThen_ok, hr]
    exact hK _ _ h
theorem wpList_build1 (hgd : o.guard = none) (T : TypeId) (i : Nat) (x : Operand) (ho : o.op = .build T #[(i, x)]) (vx : Value) (hx : a.eval x = vx)
    {v : Value} {w' : World} (hr : (Instr.build T #[(i, vx)]).run P w = .ok v w')
    (h : wpList P ops Q rest (a.put o.dst v) w') : wpList P ops Q (o :: rest) a w :=
  wpList_plain hgd fun _ hK => by
    unfold Oper.wp execOp
    simp only [ho, Sem.run_bind, Sem.run_pure, Result.andThen_ok, List.map_toArray, List.map_cons, List.map_nil, hx, hr]
    exact hK _ _ h
theorem wpList_build2 (hgd : o.guard = none) (T : TypeId) (i j : Nat) (x y : Operand) (ho : o.op = .build T #[(i, x), (j, y)]) (vx vy : Value) (hx : a.eval x = vx) (hy : a.eval y = vy)
    {v : Value} {w' : World} (hr : (Instr.build T #[(i, vx), (j, vy)]).run P w = .ok v w')
    (h : wpList P ops Q rest (a.put o.dst v) w') : wpList P ops Q (o :: rest) a w :=
  wpList_plain hgd fun _ hK => by
    unfold Oper.wp execOp
    simp only [ho, Sem.run_bind, Sem.run_pure, Result.andThen_ok, List.map_toArray, List.map_cons, List.map_nil, hx, hy, hr]
    exact hK _ _ h
theorem wpList_binop (hgd : o.guard = none) (b : BinOp) (T U : TypeId) (x y : Operand) (ho : o.op = .binOp b T x y U) (vx vy : Value) (hx : a.eval x = vx) (hy : a.eval y = vy)
    (he : (eqGuard b T x y vx vy).run P w = .ok () w) {v : Value} (hr : (binOp b T vx vy).run P w = .ok v w)
    (h : wpList P ops Q rest (a.put o.dst v) w) : wpList P ops Q (o :: rest) a w :=
  wpList_plain hgd fun _ hK => by
    unfold Oper.wp execOp
    simp only [ho, Sem.run_bind, Sem.run_pure, Result.andThen_ok, hx, hy, he, hr]
    exact hK _ _ h
theorem wpList_load (hgd : o.guard = none) (T : TypeId) (x : Operand) (ho : o.op = .load T x) (vx : Value) (hx : a.eval x = vx) {v : Value} {w' : World} (hr : (Instr.loadAt T vx).run P w = .ok v w')
    (h : wpList P ops Q rest (a.put o.dst v) w') : wpList P ops Q (o :: rest) a w :=
  wpList_plain hgd fun _ hK => by
    unfold Oper.wp execOp
    simp only [ho, Sem.run_bind, Sem.run_pure, Result.andThen_ok, hx, hr]
    exact hK _ _ h
theorem wpList_store (hgd : o.guard = none) (T : TypeId) (x y : Operand) (ho : o.op = .store T x y) (vx vy : Value) (hx : a.eval x = vx) (hy : a.eval y = vy) {w' : World} (hr : (Instr.storeAt T vx vy).run P w = .ok () w')
    (h : wpList P ops Q rest (a.put o.dst undef) w') : wpList P ops Q (o :: rest) a w :=
  wpList_plain hgd fun _ hK => by
    unfold Oper.wp execOp
    simp only [ho, Sem.run_bind, Sem.run_pure, Result.andThen_ok, hx, hy, hr]
    exact hK _ _ h
end

/-- An array with a list's values from a place on. -/
def setFrom : Array Value → Nat → List Value → Array Value
  | cs, _, [] => cs
  | cs, o, v :: vs => setFrom (cs.setIfInBounds o v) (o + 1) vs
theorem setFrom_size (vs : List Value) : ∀ (o : Nat) (cs : Array Value), (setFrom cs o vs).size = cs.size := by
  induction vs with
  | nil => intro o cs; rfl
  | cons v vs ih => intro o cs; rw [setFrom, ih]; simp
theorem setFrom_get (vs : List Value) : ∀ (o : Nat) (cs : Array Value) (i : Nat), o + vs.length ≤ cs.size →
    (setFrom cs o vs)[i]? = if o ≤ i ∧ i < o + vs.length then vs[i - o]? else cs[i]? := by
  induction vs with
  | nil => intro o cs i _; rw [if_neg (by simp)]; rfl
  | cons v vs ih =>
    intro o cs i hl
    simp only [List.length_cons] at hl
    rw [setFrom, ih (o + 1) _ i (by simp; omega)]
    simp only [List.length_cons]
    by_cases h1 : o + 1 ≤ i ∧ i < o + 1 + vs.length
    · rw [if_pos h1, if_pos (by omega), show i - o = (i - (o + 1)) + 1 by omega, List.getElem?_cons_succ]
    · rw [if_neg h1, Array.getElem?_setIfInBounds]
      by_cases h2 : o = i
      · subst h2; rw [if_pos rfl, if_pos (by omega), if_pos (by omega)]; simp
      · rw [if_neg h2, if_neg (by omega)]
theorem setFrom_whole (vs : List Value) (cs : Array Value) (h : vs.length = cs.size) : setFrom cs 0 vs = vs.toArray := by
  apply Array.ext_getElem?
  intro i
  rw [setFrom_get vs 0 cs i (by omega)]
  by_cases h1 : i < vs.length
  · rw [if_pos (by omega)]; simp
  · rw [if_neg (by omega)]
    rw [Array.getElem?_eq_none (by omega), Array.getElem?_eq_none (by simp; omega)]
theorem row_setCells {t : TypeId} {g : Nat} (vs : List Value) : ∀ (o : Nat) (w : World) (cs : Array Value), Row w g t cs → Row (w.setCells g o vs) g t (setFrom cs o vs) := by
  induction vs with
  | nil => intro o w cs h; exact h
  | cons v vs ih => intro o w cs h; exact ih (o + 1) _ _ (h.set o v)
theorem grown_setCells {g : Nat} (vs : List Value) : ∀ (o : Nat) (w : World), w.grownBy (w.setCells g o vs) (some g) := by
  induction vs with
  | nil => intro o w; exact grown_refl w _
  | cons v vs ih => intro o w; exact grown_trans (grown_set w g o v) (ih (o + 1) _)
theorem Row.there {w : World} {g : Nat} {t : TypeId} {cs : Array Value} (h : Row w g t cs) (o n : Nat) (hn : o + n ≤ cs.size) : w.there g o n := fun j hj => by
  refine ⟨?_, h.frozen _⟩
  rw [h.cell, Array.getElem?_eq_getElem (by omega)]; rfl
theorem Row.range {w : World} {g : Nat} {t : TypeId} {cs : Array Value} (h : Row w g t cs) (o : Nat) (vs : List Value) (hv : ∀ j v, vs[j]? = some v → cs[o + j]? = some v) : w.rangeAt g o vs := fun j v e => by
  rw [h.cell]; exact hv j v e
/-- A whole variable that lies in a known block, stored. -/
theorem run_store_row {P : Program} {w : World} {g o : Nat} {t T : TypeId} {cs : Array Value} (h : Row w g t cs) (vs : Array Value) (hi : (P.info? T).map (·.size) = some vs.size) (hn : o + vs.size ≤ cs.size)
    (h1 : vs.all (·.oneCell') = true) : (Instr.storeAt T (.pointer (some ⟨g, o, none⟩)) (.agg vs)).run P w = .ok () (w.setCells g o vs.toList) :=
  run_storeAt_mid w g o T vs (h.there o _ hn) hi h1

end Go.Proofs.YthabgfghogdkcaaDoor
namespace Go.Proofs.YthabgfghogdkcaaDoor
open Go.RowKit

/-- Nothing but draws. -/
def Drawn (w w' : World) : Prop := ∃ q, w' = w.drewN q
theorem Drawn.refl (w : World) : Drawn w w := ⟨0, rfl⟩
theorem Drawn.drew {w w' : World} (h : Drawn w w') : Drawn w w'.drew := by
  obtain ⟨q, rfl⟩ := h; exact ⟨q + 1, rfl⟩
theorem Drawn.drewN {w w' : World} (h : Drawn w w') (n : Nat) : Drawn w (w'.drewN n) := by
  obtain ⟨q, rfl⟩ := h; exact ⟨q + n, by simp [World.drewN, Nat.add_assoc]⟩
theorem Drawn.trans {a b c : World} (h : Drawn a b) (k : Drawn b c) : Drawn a c := by
  obtain ⟨q, rfl⟩ := k; exact h.drewN q
theorem Drawn.cell {w w' : World} (h : Drawn w w') (p : Addr) : w'.cell? p = w.cell? p := by
  obtain ⟨q, rfl⟩ := h; rfl
theorem Drawn.heap {w w' : World} (h : Drawn w w') : w'.heap = w.heap := by
  obtain ⟨q, rfl⟩ := h; rfl
theorem Drawn.below {w w' : World} (h : Drawn w w') (B : Nat) : Below B w w' := by
  obtain ⟨q, rfl⟩ := h; exact ⟨rfl, rfl, rfl, Nat.le_refl _, fun _ _ => rfl⟩

/-- A row of the call's own that reads as bytes. -/
def Own (U : TypeId) (w : World) (base : Nat) (v : Value) (l : List UInt8) : Prop := w.ownsRow base U 1 v l.length (l.map byteV)
section
variable {U : TypeId} {w w' : World} {base : Nat} {v : Value} {l : List UInt8}
theorem Own.nil (U : TypeId) (w : World) (base : Nat) : Own U w base (.slice none 0 0) [] := ⟨rfl, .inl ⟨rfl, rfl⟩⟩
theorem Own.alloc (h : Own U w base v l) (o : Obj) : Own U (w.alloc o) base v l := World.ownsRow.alloc h o
theorem Own.drew (h : Own U w base v l) : Own U w.drew base v l := h
theorem Own.drewN (h : Own U w base v l) (n : Nat) : Own U (w.drewN n) base v l := h
theorem Own.slice (h : Own U w base v l) : ∃ A c, v = .slice A l.length c ∧ l.length ≤ c ∧ c ≤ maxLen ∧ Rd w A l := by
  obtain ⟨h1, h2⟩ := h
  rcases h2 with ⟨rfl, hn⟩ | ⟨g, cap, cur, rfl, hb, hh, hn, hc, hs, ht⟩
  · have : l = [] := List.eq_nil_of_length_eq_zero hn
    subst this
    exact ⟨none, 0, rfl, Nat.le_refl _, Nat.zero_le _, Rd.nil _ _⟩
  · refine ⟨_, cap, rfl, hn, hc, fun _ => ⟨g, 0, rfl, fun i hi => ?_⟩⟩
    have e := cell_of_row w g (0 + i) cur U (0, 0) hh
    rw [e, Nat.zero_add]
    have h3 : (cur.toList.take (l.length * 1))[i]? = (l.map byteV)[i]? := by rw [ht]
    rw [List.getElem?_take_of_lt (by omega), Array.getElem?_toList] at h3
    rw [h3, List.getElem?_map, List.getElem?_eq_getElem hi]; rfl
theorem Own.keep (h : Own U w base v l) (hk : ∀ b, b < w.heap.size → v.ownBlock = some b → w'.heap[b]? = w.heap[b]?) : Own U w' base v l := by
  obtain ⟨h1, h2⟩ := h
  refine ⟨h1, ?_⟩
  rcases h2 with ⟨rfl, hn⟩ | ⟨g, cap, cur, rfl, hb, hh, hr⟩
  · exact .inl ⟨rfl, hn⟩
  · exact .inr ⟨g, cap, cur, rfl, hb, by rw [hk g (Array.getElem?_eq_some_iff.1 hh).1 rfl]; exact hh, hr⟩
theorem Own.below (h : Own U w base v l) (hb : Below w.heap.size w w') : Own U w' base v l := h.keep fun b hb' _ => hb.block b hb'
theorem Own.mono (h : Own U w base v l) {b' : Nat} (hb : b' ≤ base) : Own U w b' v l := by
  obtain ⟨h1, h2⟩ := h
  refine ⟨h1, ?_⟩
  rcases h2 with ⟨rfl, hn⟩ | ⟨g, cap, cur, rfl, hb2, hr⟩
  · exact .inl ⟨rfl, hn⟩
  · exact .inr ⟨g, cap, cur, rfl, by omega, hr⟩
theorem Own.at_ (h : Own U w base v l) : ∀ k, v.ownBlock = some k → base ≤ k ∧ k < w.heap.size := World.ownsRow.lt h
end

theorem Rd.grown {w w' : World} {A : Option Addr} {l : List UInt8} {row : Option Nat} (h : Rd w A l) (hg : w.grownBy w' row) (hn : ∀ b o, A = some ⟨b, o, none⟩ → l ≠ [] → some b ≠ row) : Rd w' A l := fun hl => by
  obtain ⟨b, o, e, hc⟩ := h hl
  refine ⟨b, o, e, fun i hi => ?_⟩
  have hb := block_lt_of_cell (hc i hi)
  rw [World.cell?_of_block (w := w) (hg.block b hb (hn b o e hl))]
  exact hc i hi

theorem Rd.lit (w : World) (t : TypeId) (l : List UInt8) : Rd (w.alloc (.cells (l.map byteV).toArray t)) (some ⟨w.heap.size, 0, none⟩) l := fun _ =>
  ⟨_, _, rfl, fun i hi => by
    rw [(Row.new w t _).cell]
    simp [hi]⟩
theorem Rd.mark (w : World) (t : TypeId) (fr : Nat × Nat) (l : List UInt8) : Rd (w.alloc (.cells (l.map byteV).toArray t fr)) (some ⟨w.heap.size, 0, none⟩) l := fun _ =>
  ⟨_, _, rfl, fun i hi => by
    rw [World.cell?_alloc_mark]
    simp [hi]⟩
theorem Rds.one {w : World} {A : Option Addr} {n c : Nat} {l : List UInt8} (t : TypeId) (h : Rd w A l) (hn : l.length = n) : Rds (w.alloc (.cells #[.slice A n c] t)) (some ⟨w.heap.size, 0, none⟩) [l] := fun _ =>
  ⟨_, _, rfl, fun i hi => by
    have e : i = 0 := by simpa using hi
    subst e
    subst hn
    exact ⟨A, c, ((Row.new w t _).cell 0).trans rfl, h.alloc _⟩⟩

theorem Rds.one_at {w : World} {A : Option Addr} {n c b : Nat} {l : List UInt8} (t : TypeId) (hb : w.heap.size = b) (h : Rd w A l) (hn : l.length = n) : Rds (w.alloc (.cells #[.slice A n c] t)) (some ⟨b, 0, none⟩) [l] := by
  subst hb; exact Rds.one t h hn
theorem below_step {B : Nat} {w W w1 : World} (h1 : Below B w W) (hB : B ≤ W.heap.size) (h2 : Below W.heap.size W w1) : Below B w w1 := h1.trans (h2.mono hB)
theorem below_new (w : World) (o : Obj) : Below w.heap.size w (w.alloc o) := (Below.refl _ _).alloc (Nat.le_refl _) o
theorem below_new2 (w : World) (o o2 : Obj) : Below w.heap.size w ((w.alloc o).alloc o2) := (below_new w o).alloc (by simp) o2

section
variable {P : Program}
theorem run_append_nil_src (w : World) (base : Nat) (t ty U : TypeId) (i : TypeInfo) (ht : P.underlying t = some (.slice U)) (hi : P.info? U = some i) (v : Value) (l : List UInt8) (hown : Own U w base v l) (c : Nat) :
    (Builtin.append_ #[t, t] ty #[v, .slice none 0 c]).run P w = .ok v w := by
  rcases hown.2 with ⟨rfl, hn⟩ | ⟨g, cap, cur, rfl, _, _, hnc, _⟩
  · simp [Builtin.append_, run_underlying ht, sizeOf, typeInfo, hi, Builtin.lenOf, Builtin.firstCells]
  · simp [Builtin.append_, run_underlying ht, sizeOf, typeInfo, hi, Builtin.lenOf, Builtin.firstCells, hnc, storeCells]

theorem beqL_true {q l : List UInt8} (h : q = l) : (@BEq.beq (List UInt8) (@List.instBEq UInt8 (@instBEqOfDecidableEq UInt8 instDecidableEqUInt8)) q l) = true := by subst h; exact beq_self_eq_true _
theorem beqL_false {q l : List UInt8} (h : q ≠ l) : (@BEq.beq (List UInt8) (@List.instBEq UInt8 (@instBEqOfDecidableEq UInt8 instDecidableEqUInt8)) q l) = false := beq_eq_false_iff_ne.2 h
/-- A byte's type. -/
def ByteInfo (P : Program) (U : TypeId) : Prop := (P.info? U).map (fun i => (i.zero, i.size, i.bytes)) = some (some (.int .u8 0), 1, 1)

theorem run_append_bytes (w : World) (base : Nat) (t ty U : TypeId) (ht : P.underlying t = some (.slice U)) (hi : ByteInfo P U) (v : Value) (l : List UInt8) (hown : Own U w base v l)
    (A : Option Addr) (m c : Nat) (k : List UInt8) (hm : k.length = m) (hr : Rd w A k) (hlen : l.length + m ≤ 140737488355328) (hbase : base ≤ w.heap.size) :
    ∃ v' w', (Builtin.append_ #[t, t] ty #[v, .slice A m c]).run P w = .ok v' w' ∧ Own U w' base v' (l ++ k) ∧ w.grownBy w' v.ownBlock ∧ (v'.ownBlock = v.ownBlock ∨ v'.ownBlock = some w.heap.size) := by
  obtain ⟨i, hi0, hz, hs, hb⟩ := info_parts hi
  subst hm
  rcases A with _ | ad
  · have hk : k = [] := by
      rcases k with _ | ⟨x, k⟩
      · rfl
      · obtain ⟨b, o, e, _⟩ := hr (by simp)
        cases e
    subst hk
    exact ⟨v, w, run_append_nil_src w base t ty U i ht hi0 v l hown c, by simpa using hown, ⟨rfl, rfl, rfl, Nat.le_refl _, fun _ _ _ => rfl⟩, .inl rfl⟩
  · obtain ⟨v', w', h1, h2, h3, _, h5⟩ := run_append_own_at (P := P) w base t ty U i _ 1 1 ht hi0 hz hs hb rfl (by omega) v l.length (l.map byteV) hown ad k.length c (k.map byteV) (by simp)
      (fun j u hu => by
        rw [List.getElem?_map] at hu
        have hj : j < k.length := by
          rcases Nat.lt_or_ge j k.length with h | h
          · exact h
          · rw [List.getElem?_eq_none h] at hu; cases hu
        rw [List.getElem?_eq_getElem hj] at hu
        obtain ⟨b, o, e, hc⟩ := hr (by intro e; subst e; simp at hj)
        injection e with e
        subst e
        rw [Option.map_some] at hu
        rw [← hu]
        rw [← hc j hj]
        rcases Nat.eq_zero_or_pos j with rfl | hp
        · rfl
        · simp [Addr.add, Nat.ne_of_gt hp])
      (fun u hu => by obtain ⟨x, _, rfl⟩ := List.mem_map.1 hu; rfl) (by unfold maxLen; omega) (by omega) hbase
    exact ⟨v', w', h1, by unfold Own; rw [List.length_append, List.map_append]; exact h2, h3, h5⟩

theorem wpList_append_bytes {w : World} {ops : Array Oper} {rest : List Oper} {o : Oper} {a : Act} {Q : Exit → Act → World → Prop} (hgd : o.guard = none) (s x : Operand) (t : TypeId)
    (ho : o.op = .call { callee := .builtin .append, args := #[s, x], argTypes := #[t, t] }) (base : Nat) (U : TypeId) (ht : P.underlying t = some (.slice U)) (hi : ByteInfo P U)
    (v : Value) (l : List UInt8) (hs : a.eval s = v) (hown : Own U w base v l)
    (A : Option Addr) (m c : Nat) (k : List UInt8) (hx : a.eval x = .slice A m c) (hm : k.length = m) (hr : Rd w A k) (hlen : l.length + m ≤ 140737488355328) (hbase : base ≤ w.heap.size)
    (h : ∀ v' w', Own U w' base v' (l ++ k) → w.grownBy w' v.ownBlock → (v'.ownBlock = v.ownBlock ∨ v'.ownBlock = some w.heap.size) → wpList P ops Q rest (a.put o.dst v') w') : wpList P ops Q (o :: rest) a w :=
  wpList_plain hgd fun _ hK => by
    obtain ⟨v', w', hr', h2, h3, h4⟩ := run_append_bytes (P := P) w base t o.type U ht hi v l hown A m c k hm hr hlen hbase
    unfold Oper.wp execOp
    simp only [ho, resolve, invoke, builtin, Sem.run_bind, Sem.run_pure, Result.andThen_ok, List.map_toArray, List.map_cons, List.map_nil, hs, hx, hr']
    exact hK _ _ (h v' w' h2 h3 h4)
/-- 'string(b)'. -/
theorem run_string_rd (w : World) (src dst U : TypeId) (A : Option Addr) (n c : Nat) (l : List UInt8) (hs : P.underlying src = some (.slice U)) (he : P.underlying U = some (.int .u8)) (hd : P.underlying dst = some .string) (hn : l.length = n) (hr : Rd w A l) :
    (convert src dst (.slice A n c)).run P w = .ok (.string ⟨l.toArray⟩) w := by
  subst hn
  rcases A with _ | ad
  · have hk : l = [] := by
      rcases l with _ | ⟨x, k⟩
      · rfl
      · obtain ⟨b, o, e, _⟩ := hr (by simp)
        cases e
    subst hk
    simp [convert, run_underlying hs, run_underlying he, run_underlying hd, Conv.bytesToString]
    rfl
  · refine run_convert_bytes_back w src dst U ad c l hs he hd fun j hj => ?_
    obtain ⟨b, o, e, hc⟩ := hr (by intro e; subst e; simp at hj)
    injection e with e
    subst e
    rw [show (⟨b, o, none⟩ : Addr).add j = ⟨b, o + j, none⟩ from by
      rcases Nat.eq_zero_or_pos j with rfl | hp
      · rfl
      · simp [Addr.add, Nat.ne_of_gt hp]]
    exact hc j hj
end
end Go.Proofs.YthabgfghogdkcaaDoor
namespace Go.Proofs.YthabgfghogdkcaaDoor
open Go.RowKit
def Later (w W : World) : Prop := Below w.heap.size w W
section
variable {w W W' : World}
theorem Later.refl (w : World) : Later w w := Below.refl _ _
theorem Later.below (h : Later w W) : Below w.heap.size w W := h
theorem Later.size (h : Later w W) : w.heap.size ≤ W.heap.size := Below.size h
theorem Later.alloc (h : Later w W) (o : Obj) : Later w (W.alloc o) := Below.alloc h (Below.size h) o
theorem Later.drew (h : Later w W) : Later w W.drew := Below.drew h
theorem Later.drewN (h : Later w W) (n : Nat) : Later w (W.drewN n) := Below.trans h ((Drawn.refl W).drewN n |>.below _)
theorem Later.call (h : Later w W) (hb : Below W.heap.size W W') : Later w W' := Below.trans h (hb.mono (Below.size h))
theorem Later.drawn (h : Later w W) (hb : Drawn W W') : Later w W' := Below.trans h (hb.below _)
theorem Later.step (h : Later w W) (hb : Later W W') : Later w W' := h.call hb
theorem Rd.later {A : Option Addr} {l : List UInt8} (h : Rd w A l) (k : Later w W) : Rd W A l := h.below k
theorem Rds.later {A : Option Addr} {ls : List (List UInt8)} (h : Rds w A ls) (k : Later w W) : Rds W A ls := h.below k
theorem Row.later {g : Nat} {t : TypeId} {cs : Array Value} (h : Row w g t cs) (k : Later w W) : Row W g t cs := h.belowAll k
theorem Own.later {U : TypeId} {base : Nat} {v : Value} {l : List UInt8} (h : Own U w base v l) (k : Later w W) : Own U W base v l := Own.below h k
theorem Later.cell (k : Later w W) {p : Addr} {v : Value} (h : w.cell? p = some v) : W.cell? p = some v := (Below.cell k (block_lt_of_cell h)).trans h
theorem Rds.drew {A : Option Addr} {ls : List (List UInt8)} (h : Rds w A ls) : Rds w.drew A ls := h.later (Later.refl w).drew
theorem Rds.drewN {A : Option Addr} {ls : List (List UInt8)} (h : Rds w A ls) (n : Nat) : Rds (w.drewN n) A ls := h.later ((Later.refl w).drewN n)
theorem Rds.of_below {A : Option Addr} {ls : List (List UInt8)} (hb : Below w.heap.size w W) (h : Rds w A ls) : Rds W A ls := h.below hb
end
theorem Rds.lit {w : World} {b : Nat} (t : TypeId) (hb : w.heap.size = b) (sl : List (Option Addr × Nat × Nat)) (ls : List (List UInt8)) (hlen : sl.length = ls.length)
    (h : ∀ i (h1 : i < sl.length) (h2 : i < ls.length), ls[i].length = sl[i].2.1 ∧ Rd w sl[i].1 ls[i]) : Rds (w.alloc (.cells (sl.map fun s => .slice s.1 s.2.1 s.2.2).toArray t)) (some ⟨b, 0, none⟩) ls := fun _ => by
  subst hb
  refine ⟨_, _, rfl, fun i hi => ?_⟩
  have h1 : i < sl.length := by omega
  obtain ⟨e, hr⟩ := h i h1 hi
  refine ⟨sl[i].1, sl[i].2.2, ?_, hr.alloc _⟩
  rw [(Row.new w t _).cell]
  simp [h1, e]
theorem Rds.two_at {w : World} {A B : Option Addr} {n c m d b : Nat} {l k : List UInt8} (t : TypeId) (hb : w.heap.size = b) (h : Rd w A l) (hn : l.length = n) (h2 : Rd w B k) (hm : k.length = m) : Rds (w.alloc (.cells #[.slice A n c, .slice B m d] t)) (some ⟨b, 0, none⟩) [l, k] :=
  Rds.lit t hb [(A, n, c), (B, m, d)] [l, k] rfl (fun i h1 h2' => by
    rcases i with _ | _ | i
    · exact ⟨hn, h⟩
    · exact ⟨hm, h2⟩
    · exact absurd h1 (by simp))
theorem Rds.three_at {w : World} {A B C : Option Addr} {n c m d p e b : Nat} {l k q : List UInt8} (t : TypeId) (hb : w.heap.size = b) (h : Rd w A l) (hn : l.length = n) (h2 : Rd w B k) (hm : k.length = m) (h3 : Rd w C q) (hp : q.length = p) : Rds (w.alloc (.cells #[.slice A n c, .slice B m d, .slice C p e] t)) (some ⟨b, 0, none⟩) [l, k, q] :=
  Rds.lit t hb [(A, n, c), (B, m, d), (C, p, e)] [l, k, q] rfl (fun i h1 h2' => by
    rcases i with _ | _ | _ | i
    · exact ⟨hn, h⟩
    · exact ⟨hm, h2⟩
    · exact ⟨hp, h3⟩
    · exact absurd h1 (by simp))
theorem grown_of_below {X Y : World} (h : Below X.heap.size X Y) : X.grownBy Y none := ⟨h.os, h.tape, h.output, h.size, fun k hk _ => h.block k hk⟩
/-- A byte of a row of one's own is set. -/
theorem Own.setAt {U : TypeId} {w : World} {base g n c : Nat} {l : List UInt8} (h : Own U w base (.slice (some ⟨g, 0, none⟩) n c) l) (i : Nat) (x : UInt8) (hi : i < l.length) :
    Own U (w.setCell ⟨g, i, none⟩ (byteV x)) base (.slice (some ⟨g, 0, none⟩) n c) (l.set i x) := by
  obtain ⟨h1, h2⟩ := h
  rcases h2 with ⟨e, _⟩ | ⟨g', cap, cur, e, hb, hh, hn, hc, hs, ht⟩
  · cases e
  · injection e with e1 e2 e3
    injection e1 with e1
    injection e1 with e1
    subst e1 e2 e3
    refine ⟨by rw [List.length_map, List.length_set, Nat.mul_one], .inr ⟨g, c, cur.setIfInBounds i (byteV x), by rw [List.length_set], hb, heap_setCell_same w g i cur U _ hh, by rw [List.length_set]; exact hn, hc, by simpa using hs, ?_⟩⟩
    rw [List.length_set, Array.toList_setIfInBounds, List.take_set, ht, List.map_set]
theorem Own.cellAt {U : TypeId} {w : World} {base g n c : Nat} {l : List UInt8} (h : Own U w base (.slice (some ⟨g, 0, none⟩) n c) l) (i : Nat) (hi : i < l.length) : w.cell? ⟨g, i, none⟩ = some (.int .u8 (l[i].toNat : Int)) ∧ w.frozen? ⟨g, i, none⟩ = false := by
  obtain ⟨A, c', e, _, _, hr⟩ := h.slice
  injection e with e1 _ _
  subst e1
  obtain ⟨b, o, e, hc⟩ := hr.at_ hi
  injection e with e
  injection e with e1 e2
  subst e1 e2
  rw [Nat.zero_add] at hc
  refine ⟨hc, ?_⟩
  rcases h.2 with ⟨e, _⟩ | ⟨g', cap, cur, e, hb, hh, _⟩
  · cases e
  · injection e with e1 _ _
    injection e1 with e1
    injection e1 with e1
    subst e1
    exact frozen_of_row w g i cur U hh
theorem Own.base_le {U : TypeId} {w : World} {base g n c : Nat} {l : List UInt8} (h : Own U w base (.slice (some ⟨g, 0, none⟩) n c) l) : base ≤ g := (h.at_ g rfl).1
theorem Own.formN {U : TypeId} {w : World} {base n : Nat} {v : Value} {l : List UInt8} (h : Own U w base v l) (hn : l.length = n) (hne : 0 < n) :
    ∃ g c, v = .slice (some ⟨g, 0, none⟩) n c ∧ Own U w base (.slice (some ⟨g, 0, none⟩) n c) l ∧ base ≤ g ∧ g < w.heap.size ∧ n ≤ c ∧ c ≤ maxLen := by
  subst hn
  obtain ⟨A, c, e, h1, h2, hr⟩ := h.slice
  have h' := h
  rcases h.2 with ⟨rfl, hn⟩ | ⟨g, cap, cur, rfl, hb, _⟩
  · omega
  · injection e with e1 e2 e3
    subst e3
    exact ⟨g, cap, rfl, h', hb, (h'.at_ g rfl).2, h1, h2⟩
/-- 's[k:]': whether or not k is the capacity. -/
theorem run_slice_from {P : Program} {t U : TypeId} {A : Option Addr} {n ca k : Nat} (ht : P.underlying t = some (.slice U)) (hi : ByteInfo P U) (h1 : k ≤ n) (h2 : n ≤ ca) :
    ∃ D, (∀ w : World, (Instr.slice t (.slice A n ca) (some (.int .i64 (k : Int))) none none).run P w = .ok (.slice D (n - k) (ca - k)) w) ∧ ∀ (W : World) (l : List UInt8), l.length = n → Rd W A l → Rd W D (l.drop k) := by
  obtain ⟨i, hi0, hz, hs, hb⟩ := info_parts hi
  have he : P.elem t = U := by simp [Program.elem, ht]
  have ht' : P.underlying t = some (.slice (P.elem t)) := by rw [he]; exact ht
  refine ⟨if ca = k then A else A.map (·.add (k * 1)), fun w => ?_, fun W l hl hr => ?_⟩
  · rw [run_slice_l w t A n ca ht' .i64 (k : Int) (by omega) (by omega), he]
    simp [sizeOf, typeInfo, hi0, hs, sliced]
  · by_cases h : ca = k
    · have : l.drop k = [] := List.drop_eq_nil_of_le (by omega)
      rw [this]
      exact Rd.nil _ _
    · rw [if_neg h, Nat.mul_one]
      intro hne
      obtain ⟨b, o, e, hc⟩ := hr (by intro e; subst e; simp at hne)
      subst e
      refine ⟨b, o + k, by unfold Addr.add; simp, fun i hi' => ?_⟩
      rw [List.getElem_drop, Nat.add_assoc]
      exact hc (k + i) (by rw [List.length_drop] at hi'; omega)
end Go.Proofs.YthabgfghogdkcaaDoor
namespace Go.Proofs.YthabgfghogdkcaaDoor
open Go.RowKit

section
variable {P : Program} {ops : Array Oper} {Q : Exit → Act → World → Prop}
/-- Operation i waits for operation j. -/
def waits (ops : Array Oper) (i j : Nat) : Bool := match ops[i]? with
  | some o => o.after.any fun e => Region.binds .any e && e.on == j
  | none => false
def dstOf (ops : Array Oper) (i : Nat) : Option Tmp := match ops[i]? with
  | some o => o.dst
  | none => none
def dstsB (ops : Array Oper) : Bool := (List.range ops.size).all fun i => (List.range ops.size).all fun j => i == j || (match dstOf ops i with
  | some d => !(dstOf ops j == some d)
  | none => true)
def backB (ops : Array Oper) : Bool := (List.range ops.size).all fun i => match ops[i]? with
  | some o => o.after.all fun e => !Region.binds .any e || decide (e.on < i)
  | none => true
def dstIn (ops : Array Oper) (n : Nat) : Bool := (List.range ops.size).all fun i => match dstOf ops i with
  | some d => decide (d < n)
  | none => true
theorem dsts_ne (h : dstsB ops = true) {i j : Nat} (hi : i < ops.size) (hj : j < ops.size) (hne : i ≠ j) {d : Tmp} (hd : dstOf ops i = some d) : dstOf ops j ≠ some d := by
  unfold dstsB at h
  rw [List.all_eq_true] at h
  have h1 := h i (List.mem_range.2 hi)
  rw [List.all_eq_true] at h1
  have h2 := h1 j (List.mem_range.2 hj)
  rw [hd] at h2
  intro e
  rw [e] at h2
  simp [hne] at h2

/-- The activation in which the listed operations have yielded. -/
def laid (ops : Array Oper) (a0 : Act) (listed : Array Bool) (xs : Nat → Value) : Nat → Act
  | 0 => a0
  | k + 1 => if listed.getD k false then (laid ops a0 listed xs k).put (dstOf ops k) (xs k) else laid ops a0 listed xs k
theorem laid_congr {a0 : Act} {l l' : Array Bool} {xs ys : Nat → Value} : ∀ (k : Nat), (∀ j, j < k → l.getD j false = l'.getD j false ∧ xs j = ys j) → laid ops a0 l xs k = laid ops a0 l' ys k
  | 0, _ => rfl
  | k + 1, h => by rw [laid, laid, laid_congr k (fun j hj => h j (by omega)), (h k (by omega)).1, (h k (by omega)).2]
theorem laid_put (hd : dstsB ops = true) {a0 : Act} {l : Array Bool} {xs : Nat → Value} {i : Nat} (v : Value) (hi : i < l.size) (hf : l.getD i false = false) : ∀ (k : Nat), k ≤ ops.size → i < k →
    (laid ops a0 l xs k).put (dstOf ops i) v = laid ops a0 (l.setIfInBounds i true) (fun j => if j = i then v else xs j) k
  | 0, _, h => absurd h (by omega)
  | k + 1, hk, h => by
    have hset : ∀ j, j ≠ i → (l.setIfInBounds i true).getD j false = l.getD j false := fun j hj => getD_set_ne false (fun e => hj e.symm)
    have hself : (l.setIfInBounds i true).getD i false = true := by simp [Array.getD, hi]
    by_cases e : i = k
    · subst e
      rw [laid, laid, hf, hself, if_neg (by simp), if_pos rfl, if_pos rfl]
      congr 1
      exact laid_congr i (fun j hj => ⟨(hset j (by omega)).symm, by rw [if_neg (by omega)]⟩)
    · have ih := laid_put hd (a0 := a0) (xs := xs) v hi hf k (by omega) (by omega)
      have hki : k ≠ i := fun e' => e e'.symm
      rw [laid, laid, hset k hki]
      cases hl : l.getD k false
      · simp only [Bool.false_eq_true, if_false]
        exact ih
      · simp only [if_true, if_neg hki]
        rw [Act.put_comm, ih]
        intro d hk'
        exact dsts_ne hd (i := k) (j := i) (by omega) (by omega) hki hk'
theorem laid_keep {a0 : Act} {l : Array Bool} {xs : Nat → Value} (x : Operand) : ∀ (k : Nat), (∀ j d, j < k → dstOf ops j = some d → l.getD j false = true → x ≠ .tmp d) → (laid ops a0 l xs k).eval x = a0.eval x
  | 0, _ => rfl
  | k + 1, h => by
    rw [laid]
    have ih := laid_keep (a0 := a0) (l := l) (xs := xs) x k (fun j d hj => h j d (by omega))
    split
    · rename_i hl
      rw [Act.eval_put (fun d hd => h k d (by omega) hd hl), ih]
    · exact ih
theorem laid_size {a0 : Act} {l : Array Bool} {xs : Nat → Value} : ∀ (k : Nat), (laid ops a0 l xs k).tmps.size = a0.tmps.size
  | 0 => rfl
  | k + 1 => by
    rw [laid]
    split
    · cases dstOf ops k <;> simp [Act.put, laid_size k]
    · exact laid_size k
theorem laid_get (hd : dstsB ops = true) {a0 : Act} {l : Array Bool} {xs : Nat → Value} {i : Nat} {t : Tmp} (ht : dstOf ops i = some t) (hl : l.getD i false = true) (hs : t < a0.tmps.size) : ∀ (k : Nat), k ≤ ops.size → i < k → (laid ops a0 l xs k).eval (.tmp t) = xs i
  | 0, _, h => absurd h (by omega)
  | k + 1, hk, h => by
    rw [laid]
    by_cases e : i = k
    · subst e
      rw [if_pos hl, ht]
      simp [Act.eval, Act.put, laid_size, hs]
    · have ih := laid_get hd (xs := xs) ht hl hs k (by omega) (by omega)
      split
      · rw [Act.eval_put, ih]
        intro d hk' e'
        injection e' with e'
        subst e'
        exact dsts_ne hd (i := k) (j := i) (by omega) (by omega) (fun e' => e e'.symm) hk' ht
      · exact ih

/-- What an operand's slot held ahead of the region it still holds when operation i comes up. -/
def keepsB (ops : Array Oper) (i : Nat) : Operand → Bool
  | .tmp t => (List.range ops.size).all fun j => !(dstOf ops j == some t) || j == i || waits ops j i
  | _ => true
/-- What is known when operation i comes up. -/
structure Env (ops : Array Oper) (a0 : Act) (V : Nat → Value → World → Prop) (i : Nat) (a : Act) (W : World) : Prop where
  keep : ∀ x, keepsB ops i x = true → a.eval x = a0.eval x
  get : ∀ j t, waits ops i j = true → dstOf ops j = some t → V j (a.eval (.tmp t)) W
/-- Operation o yields a value as it should. -/
def StepOk (P : Program) (ops : Array Oper) (Q : Exit → Act → World → Prop) (o : Oper) (a : Act) (W : World) (R : Value → World → Prop) : Prop :=
  if Region.wanted o (yielded ops a.tmps) then o.wp P a W (fun a' W' => ∃ v, a' = a.put o.dst v ∧ Later W W' ∧ R v W') Q else R undef W
structure Inv (ops : Array Oper) (a0 : Act) (w : World) (V : Nat → Value → World → Prop) (l : Array Bool) (a : Act) (W : World) : Prop where
  size : l.size = ops.size
  closed : ∀ i j, l.getD i false = true → waits ops i j = true → l.getD j false = true
  later : Later w W
  act : ∃ xs : Nat → Value, a = laid ops a0 l xs ops.size ∧ ∀ j, j < ops.size → l.getD j false = true → V j (xs j) W

theorem ready_nil (hb : backB ops = true) {l : Array Bool} (hs : l.size = ops.size) (h : Region.ready .any ops l = []) : ∀ i, i < ops.size → l.getD i false = true := by
  intro i
  induction i using Nat.strongRecOn with
  | _ i ih =>
    intro hi
    cases hl : l.getD i false
    · exfalso
      have : i ∈ Region.ready .any ops l := by
        refine mem_ready.2 ⟨?_, ops[i], Array.getElem?_eq_getElem hi, fun e he hbd => ?_⟩
        · have hi' : i < l.size := by omega
          simp [Array.getD, hi'] at hl ⊢
          exact hl
        · unfold backB at hb
          rw [List.all_eq_true] at hb
          have h1 := hb i (List.mem_range.2 hi)
          rw [Array.getElem?_eq_getElem hi] at h1
          simp only at h1
          rw [Array.all_eq_true_iff_forall_mem] at h1
          have h2 := h1 e he
          rw [hbd] at h2
          simp at h2
          exact ih e.on h2 (by omega)
      rw [h] at this
      cases this
    · rfl

/-- The activation in which all have yielded. -/
def putL : List Oper → Nat → (Nat → Value) → Act → Act
  | [], _, _, a => a
  | o :: os, k, xs, a => putL os (k + 1) xs (a.put o.dst (xs k))
theorem laid_all {a0 : Act} {l : Array Bool} {xs : Nat → Value} (hl : ∀ i, i < ops.size → l.getD i false = true) : laid ops a0 l xs ops.size = putL ops.toList 0 xs a0 := by
  have key : ∀ (os : List Oper) (k : Nat), k + os.length = ops.size → (∀ j, os[j]? = ops[k + j]?) → putL os k xs (laid ops a0 l xs k) = laid ops a0 l xs ops.size := by
    intro os
    induction os with
    | nil => intro k hk _; rw [show ops.size = k from by simpa using hk.symm]; rfl
    | cons o os ih =>
      intro k hk hos
      rw [putL]
      have h0 : ops[k]? = some o := by have := hos 0; simpa using this.symm
      have hlt : k < ops.size := (Array.getElem?_eq_some_iff.1 h0).1
      have e : (laid ops a0 l xs k).put o.dst (xs k) = laid ops a0 l xs (k + 1) := by
        rw [laid, if_pos (hl k hlt)]
        unfold dstOf
        rw [h0]
      rw [e]
      refine ih (k + 1) (by simp at hk; omega) (fun j => ?_)
      have := hos (j + 1)
      rw [List.getElem?_cons_succ] at this
      rw [this]
      congr 1
      omega
  exact (key ops.toList 0 (by simp) (fun j => by simp)).symm

theorem wpAny_values (hd : dstsB ops = true) (hb : backB ops = true) {a0 : Act} (hin : dstIn ops a0.tmps.size = true) {w : World} (V : Nat → Value → World → Prop) (hV : ∀ j v W W', V j v W → Later W W' → V j v W')
    (step : ∀ i o a W, ops[i]? = some o → Later w W → Env ops a0 V i a W → StepOk P ops Q o a W (V i))
    (done : ∀ xs W, Later w W → (∀ j, j < ops.size → V j (xs j) W) → Q .normal (putL ops.toList 0 xs a0) W) :
    ∀ (fuel : Nat) (l : Array Bool) (a : Act) (W : World), l.toList.count false ≤ fuel → Inv ops a0 w V l a W → wpAny P .any ops Q fuel l a W := by
  have fin : ∀ (l : Array Bool) (a : Act) (W : World), Inv ops a0 w V l a W → (∀ i, i < ops.size → l.getD i false = true) → Q .normal a W := fun l a W hI hl => by
    obtain ⟨xs, rfl, hx⟩ := hI.act
    rw [laid_all hl]
    exact done xs W hI.later (fun j hj => hx j hj (hl j hj))
  intro fuel
  induction fuel with
  | zero =>
    intro l a W hc hI
    have hall : ∀ i, i < ops.size → l.getD i false = true := fun i hi => by
      have hi' : i < l.size := by rw [hI.size]; exact hi
      cases h : l.getD i false
      · exfalso
        have hm : false ∈ l.toList := by
          have : l[i] = false := by simpa [Array.getD, hi'] using h
          rw [← this]; exact Array.mem_toList_iff.2 (Array.getElem_mem hi')
        have := List.count_pos_iff.2 hm
        omega
      · rfl
    refine ⟨?_, fin l a W hI hall⟩
    rw [List.eq_nil_iff_forall_not_mem]
    intro i hi
    obtain ⟨h1, o, ho, _⟩ := mem_ready.1 hi
    have hlt : i < ops.size := (Array.getElem?_eq_some_iff.1 ho).1
    have hi' : i < l.size := by rw [hI.size]; exact hlt
    have := hall i hlt
    simp [Array.getD, hi'] at this h1
    rw [this] at h1; cases h1
  | succ fuel ih =>
    intro l a W hc hI
    refine ⟨fun hr => fin l a W hI (ready_nil hb hI.size hr), fun i hi => ?_⟩
    obtain ⟨h1, o, ho, hdeps⟩ := mem_ready.1 hi
    have hlt : i < ops.size := (Array.getElem?_eq_some_iff.1 ho).1
    have hi' : i < l.size := by rw [hI.size]; exact hlt
    have hf : l.getD i false = false := by simp [Array.getD, hi'] at h1 ⊢; exact h1
    obtain ⟨xs, rfl, hx⟩ := hI.act
    have hdst : dstOf ops i = o.dst := by unfold dstOf; rw [ho]
    have hwl : ∀ j, waits ops i j = true → l.getD j false = true := fun j hw => by
      unfold waits at hw
      rw [ho] at hw
      obtain ⟨k, hk, h2⟩ := Array.any_eq_true.1 hw
      simp at h2
      rw [← h2.2]
      exact hdeps _ (Array.getElem_mem hk) h2.1
    have hjlt : ∀ j t, dstOf ops j = some t → j < ops.size := fun j t h => by
      unfold dstOf at h
      cases hj : ops[j]? with
      | none => rw [hj] at h; cases h
      | some o' => exact (Array.getElem?_eq_some_iff.1 hj).1
    have hts : ∀ j t, dstOf ops j = some t → t < a0.tmps.size := fun j t h => by
      unfold dstIn at hin
      rw [List.all_eq_true] at hin
      have := hin j (List.mem_range.2 (hjlt j t h))
      rw [h] at this
      simpa using this
    have henv : Env ops a0 V i (laid ops a0 l xs ops.size) W := by
      refine ⟨fun x hk => laid_keep x _ (fun j d hj hjd hl hx' => ?_), fun j t hw ht => ?_⟩
      · subst hx'
        unfold keepsB at hk
        rw [List.all_eq_true] at hk
        have h3 := hk j (List.mem_range.2 hj)
        rw [hjd] at h3
        simp at h3
        rcases h3 with h3 | h3
        · subst h3; rw [hf] at hl; cases hl
        · have := hI.closed j i hl h3
          rw [hf] at this; cases this
      · rw [laid_get hd ht (hwl j hw) (hts j t ht) _ (Nat.le_refl _) (hjlt j t ht)]
        exact hx j (hjlt j t ht) (hwl j hw)
    have hs := step i o _ W ho hI.later henv
    have next : ∀ v W', Later W W' → V i v W' → Inv ops a0 w V (l.setIfInBounds i true) ((laid ops a0 l xs ops.size).put o.dst v) W' := fun v W' hL hv => by
      have hset : ∀ j, j ≠ i → (l.setIfInBounds i true).getD j false = l.getD j false := fun j hj => getD_set_ne false (fun e => hj e.symm)
      refine ⟨by simpa using hI.size, fun p q hp hw => ?_, hI.later.step hL, (fun j => if j = i then v else xs j), ?_, fun j hj hl => ?_⟩
      · by_cases e : p = i
        · subst e
          exact getD_set_true (hwl q hw)
        · rw [hset p e] at hp
          exact getD_set_true (hI.closed p q hp hw)
      · rw [← hdst]
        exact laid_put hd v hi' hf _ (Nat.le_refl _) hlt
      · show V j (if j = i then v else xs j) W'
        by_cases e : j = i
        · subst e; rw [if_pos rfl]; exact hv
        · rw [if_neg e]
          rw [hset j e] at hl
          exact hV j _ W W' (hx j hj hl) hL
    have hcnt : (l.setIfInBounds i true).toList.count false ≤ fuel := by
      have hil : i < l.toList.length := by simpa using hi'
      have hlv : l.toList[i] = false := by simpa [Array.getD, hi'] using hf
      have := List.count_set (a := true) (b := false) (l := l.toList) (i := i) hil
      rw [Array.toList_setIfInBounds, this, hlv, if_pos (show (false == false) = true from rfl), if_neg (show ¬ (true == false) = true from by decide)]
      have hp : 0 < l.toList.count false := List.count_pos_iff.2 (by rw [← hlv]; exact List.getElem_mem hil)
      omega
    unfold wpOp
    rw [ho]
    unfold StepOk at hs
    simp only
    split
    · rename_i hw
      rw [if_pos hw] at hs
      refine .inl (Oper.wp_mono (fun a' W' h => ?_) hs)
      obtain ⟨v, rfl, hL, hv⟩ := h
      exact ih _ _ _ hcnt (next v W' hL hv)
    · rename_i hw
      rw [if_neg hw] at hs
      exact ih _ _ _ hcnt (next undef W (Later.refl W) hs)

theorem wp_region_values {id : Nat} {a0 : Act} {w : World} (hm : P.follows .mixedOrders = true) (hd : dstsB ops = true) (hb : backB ops = true) (hin : dstIn ops a0.tmps.size = true)
    (V : Nat → Value → World → Prop) (hV : ∀ j v W W', V j v W → Later W W' → V j v W')
    (step : ∀ i o a W, ops[i]? = some o → Later w W → Env ops a0 V i a W → StepOk P ops Q o a W (V i))
    (done : ∀ xs W, Later w W → (∀ j, j < ops.size → V j (xs j) W) → Q .normal (putL ops.toList 0 xs a0) W) : (Code.region id ops true).wp P Q a0 w := by
  refine wp_region_any hm (wpAny_values hd hb hin V hV step done _ _ _ _ ?_ ⟨by simp, fun i j hi _ => ?_, (Later.refl w).drew, fun _ => undef, ?_, fun j hj hl => ?_⟩)
  · simp
  · exfalso
    simp [Array.getD] at hi
  · have : ∀ k, laid ops a0 (Array.replicate ops.size false) (fun _ => undef) k = a0 := fun k => by
      induction k with
      | zero => rfl
      | succ k ih => rw [laid, if_neg (by simp [Array.getD]), ih]
    exact (this _).symm
  · exfalso
    simp [Array.getD] at hl

theorem stepOk_want {o : Oper} {a : Act} {W : World} {R : Value → World → Prop} (hg : o.guard = none) (h : o.wp P a W (fun a' W' => ∃ v, a' = a.put o.dst v ∧ Later W W' ∧ R v W') Q) : StepOk P ops Q o a W R := by
  unfold StepOk
  rw [if_pos (by unfold Region.wanted; rw [hg])]
  exact h
theorem yielded_of {a : Act} {j : Nat} {t : Tmp} {b : Bool} (ht : dstOf ops j = some t) (h : a.eval (.tmp t) = .bool b) : yielded ops a.tmps j = some b := by
  unfold yielded
  unfold dstOf at ht
  cases hj : ops[j]? with
  | none => rw [hj] at ht; cases ht
  | some o =>
    rw [hj] at ht
    simp only at ht
    simp only [Option.bind_some, ht]
    have h' : a.tmps.getD t undef = .bool b := h
    unfold Array.getD at h'
    split at h'
    · rename_i hlt
      rw [Array.getElem?_eq_getElem hlt]
      have h2 : a.tmps[t] = .bool b := h'
      rw [h2]
    · cases h'
theorem stepOk_yes {o : Oper} {a : Act} {W : World} {R : Value → World → Prop} {j : Nat} {t : Tmp} {b : Bool} (hg : o.guard = some (j, b)) (ht : dstOf ops j = some t) (he : a.eval (.tmp t) = .bool b) (h : o.wp P a W (fun a' W' => ∃ v, a' = a.put o.dst v ∧ Later W W' ∧ R v W') Q) : StepOk P ops Q o a W R := by
  unfold StepOk
  rw [if_pos (by unfold Region.wanted; rw [hg]; simp [yielded_of ht he])]
  exact h
theorem stepOk_no {o : Oper} {a : Act} {W : World} {R : Value → World → Prop} {j : Nat} {t : Tmp} {b c : Bool} (hg : o.guard = some (j, b)) (ht : dstOf ops j = some t) (he : a.eval (.tmp t) = .bool c) (hne : c ≠ b) (h : R undef W) : StepOk P ops Q o a W R := by
  unfold StepOk
  rw [if_neg (by unfold Region.wanted; rw [hg]; simp [yielded_of ht he, hne])]
  exact h

section
variable {o : Oper} {a : Act} {W : World} {R : Value → World → Prop}
theorem op_move {x : Operand} (ho : o.op = .move x) (h : R (a.eval x) W) : o.wp P a W (fun a' W' => ∃ v, a' = a.put o.dst v ∧ Later W W' ∧ R v W') Q := by
  unfold Oper.wp execOp
  simp only [ho, Sem.run_pure, Oper.upon]
  exact ⟨_, rfl, Later.refl _, h⟩
theorem op_assign {x : Operand} (ho : o.op = .assign x) (h : R (a.eval x) W) : o.wp P a W (fun a' W' => ∃ v, a' = a.put o.dst v ∧ Later W W' ∧ R v W') Q := by
  unfold Oper.wp execOp
  simp only [ho, Sem.run_pure, Oper.upon]
  exact ⟨_, rfl, Later.refl _, h⟩
theorem op_pick {c x y : Operand} {b : Bool} (ho : o.op = .pick c x y) (hc : a.eval c = .bool b) (h : R (if b then a.eval x else a.eval y) W) : o.wp P a W (fun a' W' => ∃ v, a' = a.put o.dst v ∧ Later W W' ∧ R v W') Q := by
  unfold Oper.wp execOp
  simp only [ho, hc, asBool, Sem.run_bind, Sem.run_pure, Result.andThen_ok, Oper.upon]
  exact ⟨_, rfl, Later.refl _, h⟩
theorem op_slice {t : TypeId} {x : Operand} {lo hi mx : Option Operand} {vx v : Value} {vlo vhi vmx : Option Value} {W' : World} (ho : o.op = .slice t x lo hi mx) (hx : a.eval x = vx) (hl : lo.map a.eval = vlo) (hh : hi.map a.eval = vhi) (hm : mx.map a.eval = vmx)
    (hr : (Instr.sliceAt t vx vlo vhi vmx).run P W = .ok v W) (h : R v W) : o.wp P a W (fun a' W' => ∃ v, a' = a.put o.dst v ∧ Later W W' ∧ R v W') Q := by
  unfold Oper.wp execOp
  simp only [ho, hx, hl, hh, hm, hr, Sem.run_bind, Sem.run_pure, Result.andThen_ok, Oper.upon]
  exact ⟨_, rfl, Later.refl _, h⟩
theorem op_buildSlice {t : TypeId} {n : Nat} {parts : Array (Nat × Operand)} {vs : Array (Nat × Value)} {v : Value} {W' : World} (ho : o.op = .buildSlice t n parts) (hp : (parts.map fun (i, x) => (i, a.eval x)) = vs)
    (hr : (Instr.buildSlice t n vs).run P W = .ok v W') (hL : Later W W') (h : R v W') : o.wp P a W (fun a' W' => ∃ v, a' = a.put o.dst v ∧ Later W W' ∧ R v W') Q := by
  unfold Oper.wp execOp
  simp only [ho, hp, hr, Sem.run_bind, Sem.run_pure, Result.andThen_ok, Oper.upon]
  exact ⟨_, rfl, hL, h⟩
theorem op_convert {s t : TypeId} {x : Operand} {vx v : Value} {W' : World} (ho : o.op = .convert s t x) (hx : a.eval x = vx) (hr : (convert s t vx).run P W = .ok v W') (hL : Later W W') (h : R v W') : o.wp P a W (fun a' W' => ∃ v, a' = a.put o.dst v ∧ Later W W' ∧ R v W') Q := by
  unfold Oper.wp execOp
  simp only [ho, hx, hr, Sem.run_bind, Sem.run_pure, Result.andThen_ok, Oper.upon]
  exact ⟨_, rfl, hL, h⟩
theorem op_extract {x : Operand} {i : Nat} {vx v : Value} (ho : o.op = .extract x i) (hx : a.eval x = vx) (hr : (Instr.extract vx i).run P W = .ok v W) (h : R v W) : o.wp P a W (fun a' W' => ∃ v, a' = a.put o.dst v ∧ Later W W' ∧ R v W') Q := by
  unfold Oper.wp execOp
  simp only [ho, hx, hr, Sem.run_bind, Sem.run_pure, Result.andThen_ok, Oper.upon]
  exact ⟨_, rfl, Later.refl _, h⟩
theorem op_binOp {b : BinOp} {t u : TypeId} {x y : Operand} {vx vy v : Value} (ho : o.op = .binOp b t x y u) (hx : a.eval x = vx) (hy : a.eval y = vy) (he : (eqGuard b t x y vx vy).run P W = .ok () W) (hr : (binOp b t vx vy).run P W = .ok v W) (h : R v W) : o.wp P a W (fun a' W' => ∃ v, a' = a.put o.dst v ∧ Later W W' ∧ R v W') Q := by
  unfold Oper.wp execOp
  simp only [ho, hx, hy, he, hr, Sem.run_bind, Sem.run_pure, Result.andThen_ok, Oper.upon]
  exact ⟨_, rfl, Later.refl _, h⟩
/-- A call of a function by its contract. -/
theorem op_call {c : Call} {f : FuncId} {args : Array Value} (ho : o.op = .call c) (hr : ((do let d ← resolve a.eval c o.type; invoke d.target d.args) : Sem Next).run P W = .ok (.enter f args) W)
    (h : Calls P f args W fun e W' => ∃ v, e = .returned v ∧ Later W W' ∧ R v W') : o.wp P a W (fun a' W' => ∃ v, a' = a.put o.dst v ∧ Later W W' ∧ R v W') Q := by
  unfold Oper.wp execOp
  simp only [ho]
  rw [hr]
  exact h.mono fun e W' ⟨v, he, hL, hv⟩ => by subst he; exact ⟨v, rfl, hL, hv⟩
theorem op_value {v : Value} {W' : World} (hr : (execOp a.eval o).run P W = .ok (.value v) W') (hL : Later W W') (h : R v W') : o.wp P a W (fun a' W' => ∃ v, a' = a.put o.dst v ∧ Later W W' ∧ R v W') Q := by
  unfold Oper.wp
  rw [hr]
  exact ⟨_, rfl, hL, h⟩
end
end
end Go.Proofs.YthabgfghogdkcaaDoor
namespace Go.Proofs.YthabgfghogdkcaaDoor
open Go.RowKit
/-- What may be said of a value: it stays true in later worlds. -/
structure Pr where
  R : Value → World → Prop
  st : ∀ v W W', R v W → Later W W' → R v W'
def Pr.eq (c : Value) : Pr := ⟨fun v _ => v = c, fun _ _ _ h _ => h⟩
def Pr.any : Pr := ⟨fun _ _ => True, fun _ _ _ h _ => h⟩
/-- A slice of slices of bytes. -/
def Pr.rds (n : Nat) (ls : List (List UInt8)) : Pr := ⟨fun v W => ∃ A, v = .slice A n n ∧ Rds W A ls, fun _ _ _ ⟨A, e, h⟩ hL => ⟨A, e, h.later hL⟩⟩
/-- A slice of bytes. -/
def Pr.rd (n : Nat) (l : List UInt8) : Pr := ⟨fun v W => ∃ A c, v = .slice A n c ∧ n ≤ c ∧ Rd W A l, fun _ _ _ ⟨A, c, e, hc, h⟩ hL => ⟨A, c, e, hc, h.later hL⟩⟩
def Vof (Vs : List Pr) (j : Nat) (v : Value) (W : World) : Prop := match Vs[j]? with
  | some p => p.R v W
  | none => True
theorem Vof.st (Vs : List Pr) : ∀ j v W W', Vof Vs j v W → Later W W' → Vof Vs j v W' := fun j v W W' h hL => by
  unfold Vof at *
  cases hj : Vs[j]? with
  | none => trivial
  | some p => rw [hj] at h; exact p.st v W W' h hL
def AllFrom (Φ : Nat → Oper → Prop) : Nat → List Oper → Prop
  | _, [] => True
  | k, o :: os => Φ k o ∧ AllFrom Φ (k + 1) os
theorem allFrom_get {Φ : Nat → Oper → Prop} : ∀ (l : List Oper) (k : Nat), AllFrom Φ k l → ∀ i o, l[i]? = some o → Φ (k + i) o
  | [], _, _, i, o, h => by simp at h
  | x :: xs, k, hA, 0, o, h => by
    rw [List.getElem?_cons_zero] at h
    injection h with h
    subst h
    exact hA.1
  | x :: xs, k, hA, i + 1, o, h => by
    rw [List.getElem?_cons_succ] at h
    have := allFrom_get xs (k + 1) hA.2 i o h
    rwa [show k + 1 + i = k + (i + 1) from by omega] at this
section
variable {P : Program} {Q : Exit → Act → World → Prop}
theorem wp_region_list {id : Nat} {l : List Oper} {a0 : Act} {w : World} (Vs : List Pr) (hm : P.follows .mixedOrders = true) (hd : dstsB l.toArray = true) (hb : backB l.toArray = true) (hin : dstIn l.toArray a0.tmps.size = true)
    (step : AllFrom (fun i o => ∀ a W, Later w W → Env l.toArray a0 (Vof Vs) i a W → StepOk P l.toArray Q o a W (Vof Vs i)) 0 l)
    (done : ∀ xs W, Later w W → (∀ j, j < l.length → Vof Vs j (xs j) W) → Q .normal (putL l 0 xs a0) W) : (Code.region id l.toArray true).wp P Q a0 w :=
  wp_region_values hm hd hb hin (Vof Vs) (Vof.st Vs) (fun i o a W ho hL he => by
    have h := allFrom_get l 0 step i o (by simpa using ho)
    rw [Nat.zero_add] at h
    exact h a W hL he) (fun xs W hL hx => done xs W hL (fun j hj => hx j (by simpa using hj)))
variable {o : Oper} {a : Act} {W : World} {R : Value → World → Prop}
theorem op_callF {f : FuncId} {xs : Array Operand} {ts : Array TypeId} {vs : Array Value} (ho : o.op = .call { callee := .value (.func f), args := xs, argTypes := ts }) (hv : xs.map a.eval = vs) (eg : ∀ args w, (callFunc f args).run P w = .ok (.enter f args) w)
    (h : Calls P f vs W fun e W' => ∃ v, e = .returned v ∧ Later W W' ∧ R v W') : o.wp P a W (fun a' W' => ∃ v, a' = a.put o.dst v ∧ Later W W' ∧ R v W') Q := by
  refine op_call ho ?_ h
  simp [resolve, invoke, go_sem, hv, eg, Act.eval]
theorem op_len {x : Operand} {t U : TypeId} (ht : P.underlying t = some (.slice U)) {A : Option Addr} {n c : Nat} (ho : o.op = .call { callee := .builtin .len, args := #[x], argTypes := #[t] }) (hx : a.eval x = .slice A n c) (h : R (.int .i64 (n : Int)) W) :
    o.wp P a W (fun a' W' => ∃ v, a' = a.put o.dst v ∧ Later W W' ∧ R v W') Q := by
  refine op_value (v := .int .i64 (n : Int)) (W' := W) ?_ (Later.refl _) h
  unfold execOp
  simp only [ho, resolve, invoke, builtin, List.map_toArray, List.map_cons, List.map_nil, hx, Sem.run_bind, Sem.run_pure, Result.andThen_ok]
  simp [Builtin.len_, run_underlying ht, goInt]
end
end Go.Proofs.YthabgfghogdkcaaDoor
namespace Go.Proofs.YthabgfghogdkcaaDoor
open Go.RowKit
section
variable {P : Program} {Q : Exit → Act → World → Prop}
/-- Every operation but the last is waited for by a later one. -/
def ancB (ops : Array Oper) : Bool := (List.range (ops.size - 1)).all fun i => (List.range ops.size).any fun k => decide (i < k) && waits ops k i
theorem anc_all {ops : Array Oper} (h : ancB ops = true) {l : Array Bool} (hcl : ∀ i j, l.getD i false = true → waits ops i j = true → l.getD j false = true) (hlast : ∀ j, waits ops (ops.size - 1) j = true → l.getD j false = true) :
    ∀ i, i < ops.size - 1 → l.getD i false = true := by
  have key : ∀ d i, ops.size - 1 - i = d → i < ops.size - 1 → l.getD i false = true := by
    intro d
    induction d using Nat.strongRecOn with
    | _ d ih =>
      intro i hd hi
      unfold ancB at h
      rw [List.all_eq_true] at h
      have h1 := h i (List.mem_range.2 hi)
      rw [List.any_eq_true] at h1
      obtain ⟨k, hk, h2⟩ := h1
      rw [List.mem_range] at hk
      simp at h2
      by_cases e : k = ops.size - 1
      · subst e; exact hlast i h2.2
      · exact hcl k i (ih (ops.size - 1 - k) (by omega) k rfl (by omega)) h2.2
  exact fun i hi => key _ i rfl hi
def plainB (o : Oper) : Bool := match o.op with
  | .defer _ => false
  | _ => true
def plainAll (ops : Array Oper) : Bool := ops.all plainB
theorem plain_of {o : Oper} (h : plainB o = true) : ∀ c, o.op ≠ .defer c := fun c e => by
  unfold plainB at h
  rw [e] at h
  cases h
theorem plainAll_get {ops : Array Oper} (h : plainAll ops = true) {i : Nat} {o : Oper} (ho : ops[i]? = some o) : ∀ c, o.op ≠ .defer c := by
  obtain ⟨hi, rfl⟩ := Array.getElem?_eq_some_iff.1 ho
  exact plain_of (Array.all_eq_true.1 h i hi)
/-- The widest fence, or a round within it. -/
def Wide (F : Fence) : Prop := F = Fence.wide ∨ ∃ l, F = Fence.wide.inRound l
theorem wide_round (l : Nat) : Wide (Fence.wide.inRound l) := .inr ⟨l, rfl⟩
theorem wide_wide : Wide Fence.wide := .inl rfl
theorem Wide.fn {F : Fence} (h : Wide F) (f : FuncId) : F.fn f := by
  rcases h with rfl | ⟨l, rfl⟩ <;> trivial
theorem Wide.depth {F : Fence} (h : Wide F) : ¬ F.depth.isSome = true := by
  rcases h with rfl | ⟨l, rfl⟩ <;> simp [Fence.wide]
theorem Wide.calls {F : Fence} (h : Wide F) {n : Nat} {f : FuncId} {args : Array Value} {w : World} {R : Ending → World → Prop} (hc : Calls P f args w R) : CallsIn F n P f args w R := by
  rcases h with rfl | ⟨l, rfl⟩
  · exact callsIn_wide.2 hc
  · exact CallsIn.inRound l (callsIn_wide.2 hc)
theorem Wide.rows {F : Fence} (h : Wide F) {n : Nat} {r : String} {args : Array Value} {w : World} {R : Value → World → Prop} (hc : Rows P r args w R) : RowsIn F n P r args w R := by
  rcases h with rfl | ⟨l, rfl⟩
  · exact fun c cs _ => let ⟨v, w', hr, s⟩ := hc c cs; ⟨v, w', hr, stepsIn_wide.2 s⟩
  · exact fun c cs _ => let ⟨v, w', hr, s⟩ := hc c cs; ⟨v, w', hr, by rw [fenced_inRound]; exact stepsIn_wide.2 s⟩
theorem opIn_of_op {F : Fence} (hF : Wide F) {n : Nat} {o : Oper} (hnd : ∀ c, o.op ≠ .defer c) {a : Act} {w : World} {K : Act → World → Prop} (h : o.wp P a w K Q) : o.wpIn F n P a w K Q := by
  refine ⟨fun f _ => hF.fn f, ?_⟩
  unfold Oper.wp at h
  rw [Oper.semAt_eq _ _ _ hnd]
  generalize (execOp a.eval o).run P w = r at *
  cases r with
  | ok x w' =>
    cases x
    all_goals first
      | exact h
      | exact ⟨fun e => absurd e hF.depth, hF.calls h⟩
      | exact ⟨fun e => absurd e hF.depth, hF.rows h⟩
      | exact False.elim h
  | halt x w' =>
    cases x <;> first | exact h | exact False.elim h
def StepOkIn (F : Fence) (n : Nat) (P : Program) (ops : Array Oper) (Q : Exit → Act → World → Prop) (o : Oper) (a : Act) (W : World) (R : Value → World → Prop) : Prop :=
  if Region.wanted o (yielded ops a.tmps) then o.wpIn F n P a W (fun a' W' => ∃ v, a' = a.put o.dst v ∧ Later W W' ∧ R v W') Q else R undef W

theorem wpAnyIn_tail {F : Fence} (hF : Wide F) {n : Nat} {ops : Array Oper} (hp : plainAll ops = true) (hd : dstsB ops = true) (hb : backB ops = true) (ha : ancB ops = true) {a0 : Act} (hin : dstIn ops a0.tmps.size = true) {w : World} {m : Nat} (hm : ops.size = m + 1) {last : Oper} (hlast : ops[m]? = some last)
    (V : Nat → Value → World → Prop) (hV : ∀ j v W W', V j v W → Later W W' → V j v W')
    (step : ∀ i o a W, i < m → ops[i]? = some o → Later w W → Env ops a0 V i a W → StepOk P ops Q o a W (V i))
    (fin : ∀ xs W, Later w W → (∀ j, j < m → V j (xs j) W) → (∀ x, keepsB ops m x = true → (putL (ops.toList.take m) 0 xs a0).eval x = a0.eval x) → (∀ j t, j < m → dstOf ops j = some t → (putL (ops.toList.take m) 0 xs a0).eval (.tmp t) = xs j) →
      if Region.wanted last (yielded ops (putL (ops.toList.take m) 0 xs a0).tmps) then last.wp P (putL (ops.toList.take m) 0 xs a0) W (fun a' W' => Q .normal a' W') Q else Q .normal ((putL (ops.toList.take m) 0 xs a0).put last.dst undef) W) :
    ∀ (fuel : Nat) (l : Array Bool) (a : Act) (W : World), l.toList.count false ≤ fuel → l.getD m false = false → Inv ops a0 w V l a W → wpAnyIn F n P .any ops Q fuel l a W := by
  have hlaid : ∀ (l : Array Bool) (xs : Nat → Value), l.getD m false = false → (∀ i, i < m → l.getD i false = true) → laid ops a0 l xs ops.size = putL (ops.toList.take m) 0 xs a0 := fun l xs hf hl => by
    rw [hm, laid, if_neg (by rw [hf]; simp)]
    have key : ∀ (os : List Oper) (k : Nat), k + os.length = m → (∀ j, j < os.length → os[j]? = ops[k + j]?) → putL os k xs (laid ops a0 l xs k) = laid ops a0 l xs m := by
      intro os
      induction os with
      | nil => intro k hk _; rw [show m = k from by simpa using hk.symm]; rfl
      | cons o os ih =>
        intro k hk hos
        rw [putL]
        have h0 : ops[k]? = some o := by have := hos 0 (by simp); simpa using this.symm
        have e : (laid ops a0 l xs k).put o.dst (xs k) = laid ops a0 l xs (k + 1) := by
          rw [laid, if_pos (hl k (by simp at hk; omega))]
          unfold dstOf
          rw [h0]
        rw [e]
        refine ih (k + 1) (by simp at hk; omega) (fun j hj => ?_)
        have := hos (j + 1) (by simp; omega)
        rw [List.getElem?_cons_succ] at this
        rw [this]
        congr 1
        omega
    refine (key (ops.toList.take m) 0 (by simp; omega) (fun j hj => ?_)).symm
    rw [List.getElem?_take_of_lt (by simp at hj; omega)]
    simp
  intro fuel
  induction fuel with
  | zero =>
    intro l a W hc hlf hI
    exfalso
    have hmm : m < l.size := by rw [hI.size]; omega
    have hmem : false ∈ l.toList := by
      have : l[m] = false := by simpa [Array.getD, hmm] using hlf
      rw [← this]; exact Array.mem_toList_iff.2 (Array.getElem_mem hmm)
    have := List.count_pos_iff.2 hmem
    omega
  | succ fuel ih =>
    intro l a W hc hlf hI
    refine ⟨fun hr => ?_, fun i hi => ?_⟩
    · have := ready_nil hb hI.size hr m (by omega)
      rw [hlf] at this; cases this
    obtain ⟨h1, o, ho, hdeps⟩ := mem_ready.1 hi
    have hlt : i < ops.size := (Array.getElem?_eq_some_iff.1 ho).1
    have hi' : i < l.size := by rw [hI.size]; exact hlt
    have hf : l.getD i false = false := by simp [Array.getD, hi'] at h1 ⊢; exact h1
    obtain ⟨xs, rfl, hx⟩ := hI.act
    have hdst : dstOf ops i = o.dst := by unfold dstOf; rw [ho]
    have hwl : ∀ j, waits ops i j = true → l.getD j false = true := fun j hw => by
      unfold waits at hw
      rw [ho] at hw
      obtain ⟨k, hk, h2⟩ := Array.any_eq_true.1 hw
      simp at h2
      rw [← h2.2]
      exact hdeps _ (Array.getElem_mem hk) h2.1
    have hjlt : ∀ j t, dstOf ops j = some t → j < ops.size := fun j t h => by
      unfold dstOf at h
      cases hj : ops[j]? with
      | none => rw [hj] at h; cases h
      | some o' => exact (Array.getElem?_eq_some_iff.1 hj).1
    have hts : ∀ j t, dstOf ops j = some t → t < a0.tmps.size := fun j t h => by
      unfold dstIn at hin
      rw [List.all_eq_true] at hin
      have := hin j (List.mem_range.2 (hjlt j t h))
      rw [h] at this
      simpa using this
    have hkeep : ∀ x, keepsB ops i x = true → (laid ops a0 l xs ops.size).eval x = a0.eval x := fun x hk => laid_keep x _ (fun j d hj hjd hl hx' => by
        subst hx'
        unfold keepsB at hk
        rw [List.all_eq_true] at hk
        have h3 := hk j (List.mem_range.2 hj)
        rw [hjd] at h3
        simp at h3
        rcases h3 with h3 | h3
        · subst h3; rw [hf] at hl; cases hl
        · have := hI.closed j i hl h3
          rw [hf] at this; cases this)
    have hget : ∀ j t, l.getD j false = true → dstOf ops j = some t → (laid ops a0 l xs ops.size).eval (.tmp t) = xs j := fun j t hl ht => laid_get hd ht hl (hts j t ht) _ (Nat.le_refl _) (hjlt j t ht)
    by_cases him : i = m
    · subst him
      have hall := anc_all ha hI.closed (by rw [hm]; simpa using hwl)
      rw [hm] at hall
      have hall' : ∀ j, j < i → l.getD j false = true := fun j hj => hall j (by omega)
      obtain rfl : o = last := by rw [ho] at hlast; exact Option.some.inj hlast
      have hf2 := fin xs W hI.later (fun j hj => hx j (by omega) (hall' j hj)) (fun x hk => by rw [← hlaid l xs hf hall']; exact hkeep x hk) (fun j t hj ht => by rw [← hlaid l xs hf hall']; exact hget j t (hall' j hj) ht)
      rw [← hlaid l xs hf hall'] at hf2
      have hend : ∀ a' W', Q .normal a' W' → wpAnyIn F n P .any ops Q fuel (l.setIfInBounds i true) a' W' := fun a' W' hq => by
        refine wpAnyIn_done ?_ hq _
        rw [List.eq_nil_iff_forall_not_mem]
        intro k hk
        obtain ⟨h1, o', ho', _⟩ := mem_ready.1 hk
        have hklt : k < ops.size := (Array.getElem?_eq_some_iff.1 ho').1
        have hk' : k < (l.setIfInBounds i true).size := by rw [Array.size_setIfInBounds, hI.size]; exact hklt
        have h2 : (l.setIfInBounds i true).getD k false = true := by
          by_cases e : k = i
          · subst e; simp [Array.getD, hi']
          · exact getD_set_true (hall' k (by omega))
        generalize l.setIfInBounds i true = l' at *
        simp [Array.getD, hk'] at h1 h2
        rw [h2] at h1
        cases h1
      unfold wpOpIn
      rw [ho]
      simp only
      split
      · rename_i hw
        rw [if_pos hw] at hf2
        exact Oper.wpIn_mono (fun a' W' h => hend a' W' h) (opIn_of_op hF (plainAll_get hp ho) hf2)
      · rename_i hw
        rw [if_neg hw] at hf2
        exact ⟨fun f _ => hF.fn f, hend _ _ hf2⟩
    · have henv : Env ops a0 V i (laid ops a0 l xs ops.size) W := ⟨hkeep, fun j t hw ht => by
        rw [hget j t (hwl j hw) ht]
        exact hx j (hjlt j t ht) (hwl j hw)⟩
      have hs := step i o _ W (by omega) ho hI.later henv
      have hset : ∀ j, j ≠ i → (l.setIfInBounds i true).getD j false = l.getD j false := fun j hj => getD_set_ne false (fun e => hj e.symm)
      have next : ∀ v W', Later W W' → V i v W' → Inv ops a0 w V (l.setIfInBounds i true) ((laid ops a0 l xs ops.size).put o.dst v) W' := fun v W' hL hv => by
        refine ⟨by simpa using hI.size, fun p q hp hw => ?_, hI.later.step hL, (fun j => if j = i then v else xs j), ?_, fun j hj hl => ?_⟩
        · by_cases e : p = i
          · subst e
            exact getD_set_true (hwl q hw)
          · rw [hset p e] at hp
            exact getD_set_true (hI.closed p q hp hw)
        · rw [← hdst]
          exact laid_put hd v hi' hf _ (Nat.le_refl _) hlt
        · show V j (if j = i then v else xs j) W'
          by_cases e : j = i
          · subst e; rw [if_pos rfl]; exact hv
          · rw [if_neg e]
            rw [hset j e] at hl
            exact hV j _ W W' (hx j hj hl) hL
      have hcnt : (l.setIfInBounds i true).toList.count false ≤ fuel := by
        have hil : i < l.toList.length := by simpa using hi'
        have hlv : l.toList[i] = false := by simpa [Array.getD, hi'] using hf
        have := List.count_set (a := true) (b := false) (l := l.toList) (i := i) hil
        rw [Array.toList_setIfInBounds, this, hlv, if_pos (show (false == false) = true from rfl), if_neg (show ¬ (true == false) = true from by decide)]
        have hp : 0 < l.toList.count false := List.count_pos_iff.2 (by rw [← hlv]; exact List.getElem_mem hil)
        omega
      have hlf' : (l.setIfInBounds i true).getD m false = false := by rw [hset m (fun e => him e.symm)]; exact hlf
      unfold wpOpIn
      rw [ho]
      unfold StepOk at hs
      simp only
      split
      · rename_i hw
        rw [if_pos hw] at hs
        refine Oper.wpIn_mono (fun a' W' h => ?_) (opIn_of_op hF (plainAll_get hp ho) hs)
        obtain ⟨v, rfl, hL, hv⟩ := h
        exact ih _ _ _ hcnt hlf' (next v W' hL hv)
      · rename_i hw
        rw [if_neg hw] at hs
        exact ⟨fun f _ => hF.fn f, ih _ _ _ hcnt hlf' (next undef W (Later.refl W) hs)⟩
/-- A region whose last operation waits for all the others. -/
theorem wpIn_region_tail {F : Fence} (hF : Wide F) {n : Nat} {id : Nat} {l : List Oper} {last : Oper} {a0 : Act} {w : World} (Vs : List Pr) (hm : P.follows .mixedOrders = true) (hp : plainAll (l ++ [last]).toArray = true) (hd : dstsB (l ++ [last]).toArray = true) (hb : backB (l ++ [last]).toArray = true) (ha : ancB (l ++ [last]).toArray = true) (hin : dstIn (l ++ [last]).toArray a0.tmps.size = true)
    (step : AllFrom (fun i o => ∀ a W, Later w W → Env (l ++ [last]).toArray a0 (Vof Vs) i a W → StepOk P (l ++ [last]).toArray Q o a W (Vof Vs i)) 0 l) (hg : last.guard = none)
    (fin : ∀ xs W, Later w W → (∀ j, j < l.length → Vof Vs j (xs j) W) → (∀ x, keepsB (l ++ [last]).toArray l.length x = true → (putL l 0 xs a0).eval x = a0.eval x) → (∀ j t, j < l.length → dstOf (l ++ [last]).toArray j = some t → (putL l 0 xs a0).eval (.tmp t) = xs j) →
      last.wp P (putL l 0 xs a0) W (fun a' W' => Q .normal a' W') Q) : (Code.region id (l ++ [last]).toArray true).wpIn F n P Q a0 w := by
  have htake : (l ++ [last]).toArray.toList.take l.length = l := by simp
  refine wpIn_region_any hm (wpAnyIn_tail hF hp hd hb ha hin (m := l.length) (last := last) (by simp) (by simp) (Vof Vs) (Vof.st Vs) (fun i o a W hi ho hL he => ?_) (fun xs W hL hx hk hg' => ?_) _ _ _ _ ?_ ?_ ⟨by simp, fun i j hi _ => ?_, (Later.refl w).drew, fun _ => undef, ?_, fun j hj hl => ?_⟩)
  · have h := allFrom_get l 0 step i o (by
      rw [List.getElem?_toArray, List.getElem?_append_left hi] at ho
      exact ho)
    rw [Nat.zero_add] at h
    exact h a W hL he
  · rw [htake] at hk hg' ⊢
    rw [if_pos (by unfold Region.wanted; rw [hg])]
    exact fin xs W hL hx hk hg'
  · simp
  · simp [Array.getD]
  · exfalso
    simp [Array.getD] at hi
  · have : ∀ k, laid (l ++ [last]).toArray a0 (Array.replicate (l ++ [last]).toArray.size false) (fun _ => undef) k = a0 := fun k => by
      induction k with
      | zero => rfl
      | succ k ih => rw [laid, if_neg (by simp [Array.getD]), ih]
    exact (this _).symm
  · exfalso
    simp [Array.getD] at hl
theorem wpAnyIn_values {F : Fence} (hF : Wide F) {n : Nat} {ops : Array Oper} (hp : plainAll ops = true) (hd : dstsB ops = true) (hb : backB ops = true) {a0 : Act} (hin : dstIn ops a0.tmps.size = true) {w : World} (V : Nat → Value → World → Prop) (hV : ∀ j v W W', V j v W → Later W W' → V j v W')
    (step : ∀ i o a W, ops[i]? = some o → Later w W → Env ops a0 V i a W → StepOk P ops Q o a W (V i))
    (done : ∀ xs W, Later w W → (∀ j, j < ops.size → V j (xs j) W) → Q .normal (putL ops.toList 0 xs a0) W) :
    ∀ (fuel : Nat) (l : Array Bool) (a : Act) (W : World), l.toList.count false ≤ fuel → Inv ops a0 w V l a W → wpAnyIn F n P .any ops Q fuel l a W := by
  have fin : ∀ (l : Array Bool) (a : Act) (W : World), Inv ops a0 w V l a W → (∀ i, i < ops.size → l.getD i false = true) → Q .normal a W := fun l a W hI hl => by
    obtain ⟨xs, rfl, hx⟩ := hI.act
    rw [laid_all hl]
    exact done xs W hI.later (fun j hj => hx j hj (hl j hj))
  intro fuel
  induction fuel with
  | zero =>
    intro l a W hc hI
    have hall : ∀ i, i < ops.size → l.getD i false = true := fun i hi => by
      have hi' : i < l.size := by rw [hI.size]; exact hi
      cases h : l.getD i false
      · exfalso
        have hm : false ∈ l.toList := by
          have : l[i] = false := by simpa [Array.getD, hi'] using h
          rw [← this]; exact Array.mem_toList_iff.2 (Array.getElem_mem hi')
        have := List.count_pos_iff.2 hm
        omega
      · rfl
    refine ⟨?_, fin l a W hI hall⟩
    rw [List.eq_nil_iff_forall_not_mem]
    intro i hi
    obtain ⟨h1, o, ho, _⟩ := mem_ready.1 hi
    have hlt : i < ops.size := (Array.getElem?_eq_some_iff.1 ho).1
    have hi' : i < l.size := by rw [hI.size]; exact hlt
    have := hall i hlt
    simp [Array.getD, hi'] at this h1
    rw [this] at h1; cases h1
  | succ fuel ih =>
    intro l a W hc hI
    refine ⟨fun hr => fin l a W hI (ready_nil hb hI.size hr), fun i hi => ?_⟩
    obtain ⟨h1, o, ho, hdeps⟩ := mem_ready.1 hi
    have hlt : i < ops.size := (Array.getElem?_eq_some_iff.1 ho).1
    have hi' : i < l.size := by rw [hI.size]; exact hlt
    have hf : l.getD i false = false := by simp [Array.getD, hi'] at h1 ⊢; exact h1
    obtain ⟨xs, rfl, hx⟩ := hI.act
    have hdst : dstOf ops i = o.dst := by unfold dstOf; rw [ho]
    have hwl : ∀ j, waits ops i j = true → l.getD j false = true := fun j hw => by
      unfold waits at hw
      rw [ho] at hw
      obtain ⟨k, hk, h2⟩ := Array.any_eq_true.1 hw
      simp at h2
      rw [← h2.2]
      exact hdeps _ (Array.getElem_mem hk) h2.1
    have hjlt : ∀ j t, dstOf ops j = some t → j < ops.size := fun j t h => by
      unfold dstOf at h
      cases hj : ops[j]? with
      | none => rw [hj] at h; cases h
      | some o' => exact (Array.getElem?_eq_some_iff.1 hj).1
    have hts : ∀ j t, dstOf ops j = some t → t < a0.tmps.size := fun j t h => by
      unfold dstIn at hin
      rw [List.all_eq_true] at hin
      have := hin j (List.mem_range.2 (hjlt j t h))
      rw [h] at this
      simpa using this
    have henv : Env ops a0 V i (laid ops a0 l xs ops.size) W := by
      refine ⟨fun x hk => laid_keep x _ (fun j d hj hjd hl hx' => ?_), fun j t hw ht => ?_⟩
      · subst hx'
        unfold keepsB at hk
        rw [List.all_eq_true] at hk
        have h3 := hk j (List.mem_range.2 hj)
        rw [hjd] at h3
        simp at h3
        rcases h3 with h3 | h3
        · subst h3; rw [hf] at hl; cases hl
        · have := hI.closed j i hl h3
          rw [hf] at this; cases this
      · rw [laid_get hd ht (hwl j hw) (hts j t ht) _ (Nat.le_refl _) (hjlt j t ht)]
        exact hx j (hjlt j t ht) (hwl j hw)
    have hs := step i o _ W ho hI.later henv
    have next : ∀ v W', Later W W' → V i v W' → Inv ops a0 w V (l.setIfInBounds i true) ((laid ops a0 l xs ops.size).put o.dst v) W' := fun v W' hL hv => by
      have hset : ∀ j, j ≠ i → (l.setIfInBounds i true).getD j false = l.getD j false := fun j hj => getD_set_ne false (fun e => hj e.symm)
      refine ⟨by simpa using hI.size, fun p q hp hw => ?_, hI.later.step hL, (fun j => if j = i then v else xs j), ?_, fun j hj hl => ?_⟩
      · by_cases e : p = i
        · subst e
          exact getD_set_true (hwl q hw)
        · rw [hset p e] at hp
          exact getD_set_true (hI.closed p q hp hw)
      · rw [← hdst]
        exact laid_put hd v hi' hf _ (Nat.le_refl _) hlt
      · show V j (if j = i then v else xs j) W'
        by_cases e : j = i
        · subst e; rw [if_pos rfl]; exact hv
        · rw [if_neg e]
          rw [hset j e] at hl
          exact hV j _ W W' (hx j hj hl) hL
    have hcnt : (l.setIfInBounds i true).toList.count false ≤ fuel := by
      have hil : i < l.toList.length := by simpa using hi'
      have hlv : l.toList[i] = false := by simpa [Array.getD, hi'] using hf
      have := List.count_set (a := true) (b := false) (l := l.toList) (i := i) hil
      rw [Array.toList_setIfInBounds, this, hlv, if_pos (show (false == false) = true from rfl), if_neg (show ¬ (true == false) = true from by decide)]
      have hp : 0 < l.toList.count false := List.count_pos_iff.2 (by rw [← hlv]; exact List.getElem_mem hil)
      omega
    unfold wpOpIn
    rw [ho]
    unfold StepOk at hs
    simp only
    split
    · rename_i hw
      rw [if_pos hw] at hs
      refine Oper.wpIn_mono (fun a' W' h => ?_) (opIn_of_op hF (plainAll_get hp ho) hs)
      obtain ⟨v, rfl, hL, hv⟩ := h
      exact ih _ _ _ hcnt (next v W' hL hv)
    · rename_i hw
      rw [if_neg hw] at hs
      exact ⟨fun f _ => hF.fn f, ih _ _ _ hcnt (next undef W (Later.refl W) hs)⟩

theorem wpIn_region_vals {F : Fence} (hF : Wide F) {n : Nat} {id : Nat} {l : List Oper} {a0 : Act} {w : World} (Vs : List Pr) (hm : P.follows .mixedOrders = true) (hp : plainAll l.toArray = true) (hd : dstsB l.toArray = true) (hb : backB l.toArray = true) (hin : dstIn l.toArray a0.tmps.size = true)
    (step : AllFrom (fun i o => ∀ a W, Later w W → Env l.toArray a0 (Vof Vs) i a W → StepOk P l.toArray Q o a W (Vof Vs i)) 0 l)
    (done : ∀ xs W, Later w W → (∀ j, j < l.length → Vof Vs j (xs j) W) → Q .normal (putL l 0 xs a0) W) : (Code.region id l.toArray true).wpIn F n P Q a0 w := by
  refine wpIn_region_any hm (wpAnyIn_values hF hp hd hb hin (Vof Vs) (Vof.st Vs) (fun i o a W ho hL he => ?_) (fun xs W hL hx => done xs W hL (fun j hj => hx j (by simpa using hj))) _ _ _ _ ?_ ⟨by simp, fun i j hi _ => ?_, (Later.refl w).drew, fun _ => undef, ?_, fun j hj hl => ?_⟩)
  · have h := allFrom_get l 0 step i o (by simpa using ho)
    rw [Nat.zero_add] at h
    exact h a W hL he
  · simp
  · exfalso
    simp [Array.getD] at hi
  · have : ∀ k, laid l.toArray a0 (Array.replicate l.toArray.size false) (fun _ => undef) k = a0 := fun k => by
      induction k with
      | zero => rfl
      | succ k ih => rw [laid, if_neg (by simp [Array.getD]), ih]
    exact (this _).symm
  · exfalso
    simp [Array.getD] at hl
variable {o : Oper} {a : Act} {W : World} {R : Value → World → Prop}
theorem op_load {t : TypeId} {x : Operand} {vx v : Value} (ho : o.op = .load t x) (hx : a.eval x = vx) (hr : (Instr.loadAt t vx).run P W = .ok v W) (h : R v W) : o.wp P a W (fun a' W' => ∃ v, a' = a.put o.dst v ∧ Later W W' ∧ R v W') Q := by
  refine op_value (v := v) (W' := W) ?_ (Later.refl _) h
  unfold execOp
  simp only [ho, hx, hr, Sem.run_bind, Sem.run_pure, Result.andThen_ok]
theorem op_alloc {t : TypeId} {v : Value} {W' : World} (ho : o.op = .alloc t) (hr : (Instr.alloc t true (.tuple #[])).run P W = .ok v W') (hL : Later W W') (h : R v W') : o.wp P a W (fun a' W' => ∃ v, a' = a.put o.dst v ∧ Later W W' ∧ R v W') Q := by
  refine op_value (v := v) (W' := W') ?_ hL h
  unfold execOp
  simp only [ho, hr, Sem.run_bind, Sem.run_pure, Result.andThen_ok]
theorem op_storeK {K : Act → World → Prop} {t : TypeId} {x y : Operand} {vx vy : Value} {W' : World} (ho : o.op = .store t x y) (hx : a.eval x = vx) (hy : a.eval y = vy) (hr : (Instr.storeAt t vx vy).run P W = .ok () W') (h : K (a.put o.dst undef) W') : o.wp P a W K Q := by
  unfold Oper.wp execOp
  simp only [ho, hx, hy, hr, Sem.run_bind, Sem.run_pure, Result.andThen_ok]
  exact h
theorem op_callV {f : FuncId} {bound all : Array Value} {x : Operand} {xs : Array Operand} {ts : Array TypeId} {vs : Array Value} (ho : o.op = .call { callee := .value x, args := xs, argTypes := ts }) (hf : a.eval x = .func (.func f) #[] bound) (hv : xs.map a.eval = vs) (eg : ∀ args w, (callFunc f args).run P w = .ok (.enter f args) w) (hall : vs ++ bound = all)
    (h : Calls P f all W fun e W' => ∃ v, e = .returned v ∧ Later W W' ∧ R v W') : o.wp P a W (fun a' W' => ∃ v, a' = a.put o.dst v ∧ Later W W' ∧ R v W') Q := by
  subst hall
  refine op_call ho ?_ h
  simp only [resolve, hf, hv]
  simp [invoke, go_sem, eg]
end
def initL : Oper → List Oper → List Oper
  | _, [] => []
  | o, o2 :: os => o :: initL o2 os
def lastL : Oper → List Oper → Oper
  | o, [] => o
  | _, o2 :: os => lastL o2 os
theorem init_last : ∀ (os : List Oper) (o : Oper), initL o os ++ [lastL o os] = o :: os
  | [], _ => rfl
  | o2 :: os, o => by rw [initL, lastL, List.cons_append, init_last os o2]
section
variable {P : Program} {Q : Exit → Act → World → Prop}
/-- The last operation, behind a name that nothing unfolds. -/
structure LastOk (P : Program) (o : Oper) (a : Act) (W : World) (Q : Exit → Act → World → Prop) : Prop where
  run : o.wp P a W (fun a' W' => Q .normal a' W') Q
theorem last_store {o : Oper} {a : Act} {W : World} {t : TypeId} {x y : Operand} {vx vy : Value} {W' : World} (ho : o.op = .store t x y) (hd : o.dst = none) (hx : a.eval x = vx) (hy : a.eval y = vy) (hr : (Instr.storeAt t vx vy).run P W = .ok () W') (h : Q .normal a W') : LastOk P o a W Q :=
  ⟨op_storeK (K := fun a' W' => Q .normal a' W') ho hx hy hr (by rw [hd]; exact h)⟩
theorem wpIn_region_last {F : Fence} (hF : Wide F) {n : Nat} {id : Nat} {o : Oper} {os : List Oper} {a0 : Act} {w : World} (Vs : List Pr) (hm : P.follows .mixedOrders = true) (hp : plainAll (o :: os).toArray = true) (hd : dstsB (o :: os).toArray = true) (hb : backB (o :: os).toArray = true) (ha : ancB (o :: os).toArray = true) (hin : dstIn (o :: os).toArray a0.tmps.size = true) (hg : (lastL o os).guard = none)
    (step : AllFrom (fun i o' => ∀ a W, Later w W → Env (o :: os).toArray a0 (Vof Vs) i a W → StepOk P (o :: os).toArray Q o' a W (Vof Vs i)) 0 (initL o os))
    (fin : ∀ xs W, Later w W → (∀ j, j < (initL o os).length → Vof Vs j (xs j) W) → (∀ x, keepsB (o :: os).toArray (initL o os).length x = true → (putL (initL o os) 0 xs a0).eval x = a0.eval x) → (∀ j t, j < (initL o os).length → dstOf (o :: os).toArray j = some t → (putL (initL o os) 0 xs a0).eval (.tmp t) = xs j) →
      LastOk P (lastL o os) (putL (initL o os) 0 xs a0) W Q) : (Code.region id (o :: os).toArray true).wpIn F n P Q a0 w := by
  have e := init_last os o
  rw [← e] at hp hd hb ha hin step fin ⊢
  exact wpIn_region_tail hF Vs hm hp hd hb ha hin step hg (fun xs W hL hx hk hg' => (fin xs W hL hx hk hg').run)
end
end Go.Proofs.YthabgfghogdkcaaDoor
namespace Go.Proofs.YthabgfghogdkcaaDoor
open Go.RowKit
section
variable {P : Program} {Q : Exit → Act → World → Prop}
/-- Every operation ahead of m is waited for by a later one, at most m. -/
def anc2B (ops : Array Oper) (m : Nat) : Bool := (List.range m).all fun i => (List.range (m + 1)).any fun k => decide (i < k) && waits ops k i
theorem anc2_all {ops : Array Oper} {m : Nat} (h : anc2B ops m = true) {l : Array Bool} (hcl : ∀ i j, l.getD i false = true → waits ops i j = true → l.getD j false = true) (hlast : ∀ j, waits ops m j = true → l.getD j false = true) :
    ∀ i, i < m → l.getD i false = true := by
  have key : ∀ d i, m - i = d → i < m → l.getD i false = true := by
    intro d
    induction d using Nat.strongRecOn with
    | _ d ih =>
      intro i hd hi
      unfold anc2B at h
      rw [List.all_eq_true] at h
      have h1 := h i (List.mem_range.2 hi)
      rw [List.any_eq_true] at h1
      obtain ⟨k, hk, h2⟩ := h1
      rw [List.mem_range] at hk
      simp at h2
      by_cases e : k = m
      · subst e; exact hlast i h2.2
      · exact hcl k i (ih (m - k) (by omega) k rfl (by omega)) h2.2
  exact fun i hi => key _ i rfl hi
theorem wpAnyIn_tail2 {F : Fence} (hF : Wide F) {n : Nat} {ops : Array Oper} (hp : plainAll ops = true) (hd : dstsB ops = true) (hb : backB ops = true) {m : Nat} (ha : anc2B ops m = true) {a0 : Act} (hin : dstIn ops a0.tmps.size = true) {w : World} (hm : ops.size = m + 2) {last y : Oper} (hlast : ops[m]? = some last) (hy : ops[m + 1]? = some y) (hyg : y.guard = none) (hyw : waits ops (m + 1) m = true)
    (V : Nat → Value → World → Prop) (hV : ∀ j v W W', V j v W → Later W W' → V j v W')
    (step : ∀ i o a W, i < m → ops[i]? = some o → Later w W → Env ops a0 V i a W → StepOk P ops Q o a W (V i))
    (fin : ∀ xs W, Later w W → (∀ j, j < m → V j (xs j) W) → (∀ x, keepsB ops m x = true → (putL (ops.toList.take m) 0 xs a0).eval x = a0.eval x) → (∀ j t, j < m → dstOf ops j = some t → (putL (ops.toList.take m) 0 xs a0).eval (.tmp t) = xs j) →
      Region.wanted last (yielded ops (putL (ops.toList.take m) 0 xs a0).tmps) = true ∧ last.wp P (putL (ops.toList.take m) 0 xs a0) W (fun a' W' => y.wp P a' W' (fun a W => Q .normal a W) Q) Q) :
    ∀ (fuel : Nat) (l : Array Bool) (a : Act) (W : World), l.toList.count false ≤ fuel → l.getD m false = false → l.getD (m + 1) false = false → Inv ops a0 w V l a W → wpAnyIn F n P .any ops Q fuel l a W := by
  have hlaid : ∀ (l : Array Bool) (xs : Nat → Value), l.getD m false = false → l.getD (m + 1) false = false → (∀ i, i < m → l.getD i false = true) → laid ops a0 l xs ops.size = putL (ops.toList.take m) 0 xs a0 := fun l xs hf hf1 hl => by
    rw [hm, laid, if_neg (by rw [hf1]; simp), laid, if_neg (by rw [hf]; simp)]
    have key : ∀ (os : List Oper) (k : Nat), k + os.length = m → (∀ j, j < os.length → os[j]? = ops[k + j]?) → putL os k xs (laid ops a0 l xs k) = laid ops a0 l xs m := by
      intro os
      induction os with
      | nil => intro k hk _; rw [show m = k from by simpa using hk.symm]; rfl
      | cons o os ih =>
        intro k hk hos
        rw [putL]
        have h0 : ops[k]? = some o := by have := hos 0 (by simp); simpa using this.symm
        have e : (laid ops a0 l xs k).put o.dst (xs k) = laid ops a0 l xs (k + 1) := by
          rw [laid, if_pos (hl k (by simp at hk; omega))]
          unfold dstOf
          rw [h0]
        rw [e]
        refine ih (k + 1) (by simp at hk; omega) (fun j hj => ?_)
        have := hos (j + 1) (by simp; omega)
        rw [List.getElem?_cons_succ] at this
        rw [this]
        congr 1
        omega
    refine (key (ops.toList.take m) 0 (by simp; omega) (fun j hj => ?_)).symm
    rw [List.getElem?_take_of_lt (by simp at hj; omega)]
    simp
  intro fuel
  induction fuel with
  | zero =>
    intro l a W hc hlf hlf1 hI
    exfalso
    have hmm : m < l.size := by rw [hI.size]; omega
    have hmem : false ∈ l.toList := by
      have : l[m] = false := by simpa [Array.getD, hmm] using hlf
      rw [← this]; exact Array.mem_toList_iff.2 (Array.getElem_mem hmm)
    have := List.count_pos_iff.2 hmem
    omega
  | succ fuel ih =>
    intro l a W hc hlf hlf1 hI
    refine ⟨fun hr => ?_, fun i hi => ?_⟩
    · have := ready_nil hb hI.size hr m (by omega)
      rw [hlf] at this; cases this
    obtain ⟨h1, o, ho, hdeps⟩ := mem_ready.1 hi
    have hlt : i < ops.size := (Array.getElem?_eq_some_iff.1 ho).1
    have hi' : i < l.size := by rw [hI.size]; exact hlt
    have hf : l.getD i false = false := by simp [Array.getD, hi'] at h1 ⊢; exact h1
    obtain ⟨xs, rfl, hx⟩ := hI.act
    have hdst : dstOf ops i = o.dst := by unfold dstOf; rw [ho]
    have hwl : ∀ j, waits ops i j = true → l.getD j false = true := fun j hw => by
      unfold waits at hw
      rw [ho] at hw
      obtain ⟨k, hk, h2⟩ := Array.any_eq_true.1 hw
      simp at h2
      rw [← h2.2]
      exact hdeps _ (Array.getElem_mem hk) h2.1
    have hjlt : ∀ j t, dstOf ops j = some t → j < ops.size := fun j t h => by
      unfold dstOf at h
      cases hj : ops[j]? with
      | none => rw [hj] at h; cases h
      | some o' => exact (Array.getElem?_eq_some_iff.1 hj).1
    have hts : ∀ j t, dstOf ops j = some t → t < a0.tmps.size := fun j t h => by
      unfold dstIn at hin
      rw [List.all_eq_true] at hin
      have := hin j (List.mem_range.2 (hjlt j t h))
      rw [h] at this
      simpa using this
    have hkeep : ∀ x, keepsB ops i x = true → (laid ops a0 l xs ops.size).eval x = a0.eval x := fun x hk => laid_keep x _ (fun j d hj hjd hl hx' => by
        subst hx'
        unfold keepsB at hk
        rw [List.all_eq_true] at hk
        have h3 := hk j (List.mem_range.2 hj)
        rw [hjd] at h3
        simp at h3
        rcases h3 with h3 | h3
        · subst h3; rw [hf] at hl; cases hl
        · have := hI.closed j i hl h3
          rw [hf] at this; cases this)
    have hget : ∀ j t, l.getD j false = true → dstOf ops j = some t → (laid ops a0 l xs ops.size).eval (.tmp t) = xs j := fun j t hl ht => laid_get hd ht hl (hts j t ht) _ (Nat.le_refl _) (hjlt j t ht)
    by_cases him : i = m
    · subst him
      have hall' : ∀ j, j < i → l.getD j false = true := anc2_all ha hI.closed hwl
      obtain rfl : o = last := by rw [ho] at hlast; exact Option.some.inj hlast
      have hf2 := fin xs W hI.later (fun j hj => hx j (by omega) (hall' j hj)) (fun x hk => by rw [← hlaid l xs hf hlf1 hall']; exact hkeep x hk) (fun j t hj ht => by rw [← hlaid l xs hf hlf1 hall']; exact hget j t (hall' j hj) ht)
      rw [← hlaid l xs hf hlf1 hall'] at hf2
      obtain ⟨hw2, hf2⟩ := hf2
      have hpl := plainAll_get hp ho
      have hend : ∀ a' W', y.wp P a' W' (fun a W => Q .normal a W) Q → wpAnyIn F n P .any ops Q fuel (l.setIfInBounds i true) a' W' := fun a' W' hq => by
        have hsz : (l.setIfInBounds i true).size = ops.size := by rw [Array.size_setIfInBounds, hI.size]
        have hself : (l.setIfInBounds i true).getD i false = true := by simp [Array.getD, hi']
        have hset : ∀ j, j ≠ i → (l.setIfInBounds i true).getD j false = l.getD j false := fun j hj => getD_set_ne false (fun e => hj e.symm)
        have h1f : (l.setIfInBounds i true).getD (i + 1) false = false := by rw [hset _ (by omega)]; exact hlf1
        have hcount : 0 < fuel := by
          have hil : i < l.toList.length := by simpa using hi'
          have hlv : l.toList[i] = false := by simpa [Array.getD, hi'] using hf
          have hc2 := List.count_set (a := true) (b := false) (l := l.toList) (i := i) hil
          rw [hlv, if_pos (show (false == false) = true from rfl), if_neg (show ¬ (true == false) = true from by decide)] at hc2
          have h1l : i + 1 < (l.toList.set i true).length := by rw [List.length_set, Array.length_toList, hI.size]; omega
          have hmem : false ∈ l.toList.set i true := by
            have e : (l.toList.set i true)[i + 1] = false := by
              have : i + 1 < l.size := by rw [hI.size]; omega
              rw [List.getElem_set_ne (by omega)]
              simpa [Array.getD, this] using hlf1
            rw [← e]; exact List.getElem_mem h1l
          have := List.count_pos_iff.2 hmem
          omega
        obtain ⟨f2, rfl⟩ : ∃ f2, fuel = f2 + 1 := ⟨fuel - 1, by omega⟩
        refine ⟨fun hr => ?_, fun k hk => ?_⟩
        · have := ready_nil hb hsz hr (i + 1) (by omega)
          rw [h1f] at this; cases this
        · obtain ⟨h1, o', ho', _⟩ := mem_ready.1 hk
          have hklt : k < ops.size := (Array.getElem?_eq_some_iff.1 ho').1
          have hk' : k < (l.setIfInBounds i true).size := by rw [hsz]; exact hklt
          have hkf : (l.setIfInBounds i true).getD k false = false := by
            generalize l.setIfInBounds i true = l' at *
            simp [Array.getD, hk'] at h1 ⊢
            exact h1
          have hki : k = i + 1 := by
            rcases Nat.lt_trichotomy k i with h | h | h
            · rw [hset k (by omega), hall' k h] at hkf; cases hkf
            · subst h; rw [hself] at hkf; cases hkf
            · omega
          subst hki
          obtain rfl : o' = y := by rw [ho'] at hy; exact Option.some.inj hy
          have hfin : ∀ a3 W3, Q .normal a3 W3 → wpAnyIn F n P .any ops Q f2 ((l.setIfInBounds i true).setIfInBounds (i + 1) true) a3 W3 := fun a3 W3 hq3 => by
            refine wpAnyIn_done ?_ hq3 _
            rw [List.eq_nil_iff_forall_not_mem]
            intro q hq4
            obtain ⟨g1, o4, ho4, _⟩ := mem_ready.1 hq4
            have hqlt : q < ops.size := (Array.getElem?_eq_some_iff.1 ho4).1
            have hq' : q < ((l.setIfInBounds i true).setIfInBounds (i + 1) true).size := by rw [Array.size_setIfInBounds, hsz]; exact hqlt
            have g2 : ((l.setIfInBounds i true).setIfInBounds (i + 1) true).getD q false = true := by
              by_cases e : q = i + 1
              · subst e
                simp [Array.getD]
                rw [hI.size]; exact hklt
              · rw [getD_set_ne false (fun e' => e e'.symm)]
                by_cases e2 : q = i
                · subst e2; exact hself
                · rw [hset q e2]; exact hall' q (by omega)
            generalize (l.setIfInBounds i true).setIfInBounds (i + 1) true = l' at *
            simp [Array.getD, hq'] at g1 g2
            rw [g2] at g1
            cases g1
          unfold wpOpIn
          rw [ho']
          simp only
          rw [if_pos (by unfold Region.wanted; rw [hyg])]
          exact Oper.wpIn_mono (fun a3 W3 h3 => hfin a3 W3 h3) (opIn_of_op hF (plainAll_get hp ho') hq)
      unfold wpOpIn
      rw [ho]
      simp only
      rw [if_pos hw2]
      exact Oper.wpIn_mono (fun a' W' h => hend a' W' h) (opIn_of_op hF hpl hf2)
    · by_cases him1 : i = m + 1
      · subst him1
        exfalso
        have := hwl m hyw
        rw [hlf] at this; cases this
      have henv : Env ops a0 V i (laid ops a0 l xs ops.size) W := ⟨hkeep, fun j t hw ht => by
        rw [hget j t (hwl j hw) ht]
        exact hx j (hjlt j t ht) (hwl j hw)⟩
      have hs := step i o _ W (by omega) ho hI.later henv
      have hset : ∀ j, j ≠ i → (l.setIfInBounds i true).getD j false = l.getD j false := fun j hj => getD_set_ne false (fun e => hj e.symm)
      have next : ∀ v W', Later W W' → V i v W' → Inv ops a0 w V (l.setIfInBounds i true) ((laid ops a0 l xs ops.size).put o.dst v) W' := fun v W' hL hv => by
        refine ⟨by simpa using hI.size, fun p q hp hw => ?_, hI.later.step hL, (fun j => if j = i then v else xs j), ?_, fun j hj hl => ?_⟩
        · by_cases e : p = i
          · subst e
            exact getD_set_true (hwl q hw)
          · rw [hset p e] at hp
            exact getD_set_true (hI.closed p q hp hw)
        · rw [← hdst]
          exact laid_put hd v hi' hf _ (Nat.le_refl _) hlt
        · show V j (if j = i then v else xs j) W'
          by_cases e : j = i
          · subst e; rw [if_pos rfl]; exact hv
          · rw [if_neg e]
            rw [hset j e] at hl
            exact hV j _ W W' (hx j hj hl) hL
      have hcnt : (l.setIfInBounds i true).toList.count false ≤ fuel := by
        have hil : i < l.toList.length := by simpa using hi'
        have hlv : l.toList[i] = false := by simpa [Array.getD, hi'] using hf
        have := List.count_set (a := true) (b := false) (l := l.toList) (i := i) hil
        rw [Array.toList_setIfInBounds, this, hlv, if_pos (show (false == false) = true from rfl), if_neg (show ¬ (true == false) = true from by decide)]
        have hp : 0 < l.toList.count false := List.count_pos_iff.2 (by rw [← hlv]; exact List.getElem_mem hil)
        omega
      have hlf' : (l.setIfInBounds i true).getD m false = false := by rw [hset m (fun e => him e.symm)]; exact hlf
      have hlf1' : (l.setIfInBounds i true).getD (m + 1) false = false := by rw [hset (m + 1) (fun e => him1 e.symm)]; exact hlf1
      unfold wpOpIn
      rw [ho]
      unfold StepOk at hs
      simp only
      split
      · rename_i hw
        rw [if_pos hw] at hs
        refine Oper.wpIn_mono (fun a' W' h => ?_) (opIn_of_op hF (plainAll_get hp ho) hs)
        obtain ⟨v, rfl, hL, hv⟩ := h
        exact ih _ _ _ hcnt hlf' hlf1' (next v W' hL hv)
      · rename_i hw
        rw [if_neg hw] at hs
        exact ⟨fun f _ => hF.fn f, ih _ _ _ hcnt hlf' hlf1' (next undef W (Later.refl W) hs)⟩
/-- The operation ahead of the last one, behind a name that nothing unfolds; behind it the last one. -/
structure LastOk2 (P : Program) (o y : Oper) (a : Act) (W : World) (Q : Exit → Act → World → Prop) : Prop where
  run : o.wp P a W (fun a' W' => y.wp P a' W' (fun a W => Q .normal a W) Q) Q
def init2 : Oper → Oper → List Oper → List Oper
  | _, _, [] => []
  | o, o2, o3 :: os => o :: init2 o2 o3 os
def pen2 : Oper → Oper → List Oper → Oper
  | o, _, [] => o
  | _, o2, o3 :: os => pen2 o2 o3 os
def last2 : Oper → Oper → List Oper → Oper
  | _, o2, [] => o2
  | _, o2, o3 :: os => last2 o2 o3 os
theorem init2_eq : ∀ (os : List Oper) (o o2 : Oper), init2 o o2 os ++ [pen2 o o2 os, last2 o o2 os] = o :: o2 :: os
  | [], _, _ => rfl
  | o3 :: os, o, o2 => by rw [init2, pen2, last2, List.cons_append, init2_eq os o2 o3]
theorem wpIn_region_last2 {F : Fence} (hF : Wide F) {n : Nat} {id : Nat} {o o2 : Oper} {os : List Oper} {a0 : Act} {w : World} (Vs : List Pr) (hm : P.follows .mixedOrders = true) (hp : plainAll (o :: o2 :: os).toArray = true) (hd : dstsB (o :: o2 :: os).toArray = true) (hb : backB (o :: o2 :: os).toArray = true) (ha : anc2B (o :: o2 :: os).toArray (init2 o o2 os).length = true) (hin : dstIn (o :: o2 :: os).toArray a0.tmps.size = true)
    (hg : (pen2 o o2 os).guard = none) (hg2 : (last2 o o2 os).guard = none) (hyw : waits (o :: o2 :: os).toArray ((init2 o o2 os).length + 1) (init2 o o2 os).length = true)
    (step : AllFrom (fun i o' => ∀ a W, Later w W → Env (o :: o2 :: os).toArray a0 (Vof Vs) i a W → StepOk P (o :: o2 :: os).toArray Q o' a W (Vof Vs i)) 0 (init2 o o2 os))
    (fin : ∀ xs W, Later w W → (∀ j, j < (init2 o o2 os).length → Vof Vs j (xs j) W) → (∀ x, keepsB (o :: o2 :: os).toArray (init2 o o2 os).length x = true → (putL (init2 o o2 os) 0 xs a0).eval x = a0.eval x) → (∀ j t, j < (init2 o o2 os).length → dstOf (o :: o2 :: os).toArray j = some t → (putL (init2 o o2 os) 0 xs a0).eval (.tmp t) = xs j) →
      LastOk2 P (pen2 o o2 os) (last2 o o2 os) (putL (init2 o o2 os) 0 xs a0) W Q) : (Code.region id (o :: o2 :: os).toArray true).wpIn F n P Q a0 w := by
  have e := init2_eq os o o2
  rw [← e] at hp hd hb ha hin step fin hyw ⊢
  generalize init2 o o2 os = l at *
  generalize pen2 o o2 os = x at *
  generalize last2 o o2 os = y at *
  have htake : (l ++ [x, y]).toArray.toList.take l.length = l := by simp
  refine wpIn_region_any hm (wpAnyIn_tail2 hF hp hd hb (m := l.length) ha hin (last := x) (y := y) (by simp) (by simp) (by simp) hg2 hyw (Vof Vs) (Vof.st Vs) (fun i o a W hi ho hL he => ?_) (fun xs W hL hx hk hg' => ?_) _ _ _ _ ?_ ?_ ?_ ⟨by simp, fun i j hi _ => ?_, (Later.refl w).drew, fun _ => undef, ?_, fun j hj hl => ?_⟩)
  · have h := allFrom_get l 0 step i o (by
      rw [List.getElem?_toArray, List.getElem?_append_left hi] at ho
      exact ho)
    rw [Nat.zero_add] at h
    exact h a W hL he
  · rw [htake] at hk hg' ⊢
    exact ⟨by unfold Region.wanted; rw [hg], (fin xs W hL hx hk hg').run⟩
  · simp
  · simp [Array.getD]
  · simp [Array.getD]
  · exfalso
    simp [Array.getD] at hi
  · have : ∀ k, laid (l ++ [x, y]).toArray a0 (Array.replicate (l ++ [x, y]).toArray.size false) (fun _ => undef) k = a0 := fun k => by
      induction k with
      | zero => rfl
      | succ k ih => rw [laid, if_neg (by simp [Array.getD]), ih]
    exact (this _).symm
  · exfalso
    simp [Array.getD] at hl
theorem op_assignK {o : Oper} {a : Act} {W : World} {K : Act → World → Prop} {x : Operand} (ho : o.op = .assign x) (h : K (a.put o.dst (a.eval x)) W) : o.wp P a W K Q := by
  unfold Oper.wp execOp
  simp only [ho, Sem.run_pure, Oper.upon]
  exact h
theorem op_append_bytes {o : Oper} {a : Act} {w : World} {K : Act → World → Prop} (s x : Operand) (t : TypeId)
    (ho : o.op = .call { callee := .builtin .append, args := #[s, x], argTypes := #[t, t] }) (base : Nat) (U : TypeId) (ht : P.underlying t = some (.slice U)) (hi : ByteInfo P U)
    (v : Value) (l : List UInt8) (hs : a.eval s = v) (hown : Own U w base v l)
    (A : Option Addr) (m c : Nat) (k : List UInt8) (hx : a.eval x = .slice A m c) (hm : k.length = m) (hr : Rd w A k) (hlen : l.length + m ≤ 140737488355328) (hbase : base ≤ w.heap.size)
    (h : ∀ v' w', Own U w' base v' (l ++ k) → w.grownBy w' v.ownBlock → (v'.ownBlock = v.ownBlock ∨ v'.ownBlock = some w.heap.size) → K (a.put o.dst v') w') : o.wp P a w K Q := by
  obtain ⟨v', w', hr', h2, h3, h4⟩ := run_append_bytes (P := P) w base t o.type U ht hi v l hown A m c k hm hr hlen hbase
  unfold Oper.wp execOp
  simp only [ho, resolve, invoke, builtin, Sem.run_bind, Sem.run_pure, Result.andThen_ok, List.map_toArray, List.map_cons, List.map_nil, hs, hx, hr']
  exact h v' w' h2 h3 h4
end
end Go.Proofs.YthabgfghogdkcaaDoor
namespace Go.Proofs.YthabgfghogdkcaaDoor
open Go.RowKit

/-- Stays true while new blocks are laid and whatever becomes of one block that C lets. -/
def AbC {β : Type} (C : Nat → Prop) (J : β → World → Prop) : Prop :=
  ∀ s X Y row, J s X → X.grownBy Y row → (∀ r, row = some r → C r) → J s Y
/-- The contract of an iterator that may turn the blocks of C. -/
def SeqC {α : Type} (F : Fence) (n : Nat) (P : Program) (g : Nat) (lb : Array Value) (encs : α → Array Value) (Kp : World → World → Prop) (S Sp : List α → Prop) (Ok : List α → α → Prop) (C : Nat → Prop) (W : World) : Prop :=
  ∀ (l : Nat) (J Jx : List α → World → Prop) (W1 : World), Below W.heap.size W W1 → AbC C J → AbC C Jx →
    (∀ pre x X, J pre X → Ok pre x → YieldAt F (n - 1) P l (encs x) X fun e Y => (e = .returned (.bool true) ∧ J (pre ++ [x]) Y ∧ Kp X Y) ∨ (e = .returned (.bool false) ∧ Jx (pre ++ [x]) Y)) →
    J [] W1 → CallsIn F n P g (#[.func (.yield l) #[] #[]] ++ lb) W1 fun e Y => (∃ v, e = .returned v) ∧ ((∃ xs, S xs ∧ J xs Y) ∨ ∃ pre, Sp pre ∧ Jx pre Y)
/-- The caller's invariant: as above, and whatever becomes of a block from B on that holds no cells. -/
def Stab {β : Type} (B : Nat) (C : Nat → Prop) (I : β → World → Prop) : Prop :=
  ∀ s X Y row, I s X → X.grownBy Y row → (∀ r, row = some r → C r ∨ (B ≤ r ∧ ∃ o : Obj, X.heap[r]? = some o ∧ o.isCells = false)) → I s Y
theorem Stab.alloc {β : Type} {B : Nat} {C : Nat → Prop} {I : β → World → Prop} (h : Stab B C I) {s : β} {X : World} (o : Obj) (hs : I s X) : I s (X.alloc o) :=
  h s X _ none hs (World.grownBy_alloc X o none) (fun r e => by cases e)
theorem Stab.put {β : Type} {B : Nat} {C : Nat → Prop} {I : β → World → Prop} (h : Stab B C I) {s : β} {X : World} {l : Nat} {o : Obj} (o' : Obj) (hs : I s X) (hB : B ≤ l) (hl : X.heap[l]? = some o) (ho : o.isCells = false) : I s (X.putObj l o') :=
  h s X _ (some l) hs (grownBy_putObj' X l o') (fun r e => by cases e; exact .inr ⟨hB, o, hl, ho⟩)
theorem Stab.abC {β : Type} {B : Nat} {C : Nat → Prop} {I : β → World → Prop} (h : Stab B C I) : AbC C I := fun s X Y row hs hg hr => h s X Y row hs hg (fun r e => .inl (hr r e))
theorem Stab.and {β : Type} {B : Nat} {C : Nat → Prop} {I I' : β → World → Prop} (h : Stab B C I) (h' : Stab B C I') : Stab B C (fun s W => I s W ∧ I' s W) := fun s X Y row hs hg hr => ⟨h s X Y row hs.1 hg hr, h' s X Y row hs.2 hg hr⟩
theorem stab_false {β : Type} (B : Nat) (C : Nat → Prop) : Stab B C (fun (_ : β) (_ : World) => False) := fun _ _ _ _ hs _ _ => hs
/-- A block of cells that the iterator doesn't turn. -/
theorem stab_block {β : Type} {B b : Nat} {C : Nat → Prop} (hC : ¬ C b) (f : β → Array Value) (t : TypeId) : Stab B C (fun s W => W.heap[b]? = some (.cells (f s) t (0, 0))) := fun s X Y row hs hg hr =>
  (hg.block b (Array.getElem?_eq_some_iff.1 hs).1 (fun e => by
    rcases hr b e.symm with h | ⟨_, o, ho, hc⟩
    · exact hC h
    · rw [show X.heap[b]? = _ from hs] at ho; cases ho; cases hc)).trans hs
/-- What lay below stays: the iterator's blocks lie from there on. -/
theorem stab_below {β : Type} {B n₀ : Nat} {C : Nat → Prop} {w₀ : World} (hn : n₀ ≤ w₀.heap.size) (hB : n₀ ≤ B) (hC : ∀ r, C r → n₀ ≤ r) : Stab B C (fun (_ : β) W => Below n₀ w₀ W) := fun _ X Y row hs hg hr =>
  hs.grown hg (Nat.le_trans hn hs.size) (fun k e => by
    rcases hr k e with h | ⟨h, _⟩
    · exact hC k h
    · omega)

/-- A function's body that holds a label, within the widest fence. -/
theorem wpIn_scope_wide {n : Nat} {P : Program} {c : Code} {Q : Exit → Act → World → Prop} {a : Act} {w : World} (h : c.wpIn Fence.wide n P (Exit.noGoto Q) a w) : (Code.scope c).wpIn Fence.wide n P Q a w :=
  wpIn_wide.2 (wp_scope_straight (wpIn_wide.1 h))

section
variable {F : Fence} {n : Nat} {P : Program}
/-- How a round's body may be left. -/
def leftC {α : Type} (B : Nat) (Kp : World → World → Prop) (I : List α → World → Prop) (Ix : Code → List α → World → Prop) (xs : List α) (W : World) : Exit → Act → World → Prop
  | .normal, _, Y => KeepsFrom B W Y ∧ Kp W Y ∧ I xs Y
  | .ret, _, Y => KeepsFrom B W Y ∧ Ix .ret xs Y
  | .exit id, _, Y => KeepsFrom B W Y ∧ Ix (.exit id) xs Y
  | .goto t, _, Y => KeepsFrom B W Y ∧ Ix (.goto t) xs Y
  | .panic _, _, _ => False
  | .outgrown, _, _ => False

/-- What the statement lays: the rounds' deferred calls, then the loop's record. -/
def bookOf (fn : FuncId) (tmps : Array Value) (ps : Array Tmp) (assign body : Code) (D : Nat) (st : LoopState) (pe : Option Code) : Loop :=
  { state := st, pending := pe, fn := fn, tmps := tmps, params := ps, assign := assign, body := body, defers := D }
structure Booked (mk : LoopState → Option Code → Loop) (D : Nat) (st : LoopState) (pe : Option Code) (W : World) : Prop where
  loop : W.heap[D + 1]? = some (.loop (mk st pe))
  defs : W.heap[D]? = some (.deferred (some []))
theorem Booked.keeps {mk : LoopState → Option Code → Loop} {D : Nat} {st : LoopState} {pe : Option Code} {X Y : World} (h : Booked mk D st pe X) (hk : KeepsFrom D X Y) : Booked mk D st pe Y :=
  ⟨hk.same _ _ (by omega) h.loop rfl, hk.same _ _ (Nat.le_refl _) h.defs rfl⟩
theorem Booked.grown {mk : LoopState → Option Code → Loop} {D : Nat} {st : LoopState} {pe : Option Code} {X Y : World} {row : Option Nat} (h : Booked mk D st pe X) (hg : X.grownBy Y row) (hr : ∀ r, row = some r → r < D) : Booked mk D st pe Y := by
  refine ⟨(hg.block _ (Array.getElem?_eq_some_iff.1 h.loop).1 (fun e => ?_)).trans h.loop, (hg.block _ (Array.getElem?_eq_some_iff.1 h.defs).1 (fun e => ?_)).trans h.defs⟩
  · have := hr _ e.symm; omega
  · have := hr _ e.symm; omega
theorem Booked.turn {mk : LoopState → Option Code → Loop} {D : Nat} {st st' : LoopState} {pe pe' : Option Code} {X : World} (h : Booked mk D st pe X) : Booked mk D st' pe' (X.putObj (D + 1) (.loop (mk st' pe'))) :=
  ⟨World.putObj_heap_same (Array.getElem?_eq_some_iff.1 h.loop).1, (World.putObj_heap_other (by omega)).trans h.defs⟩

theorem wpIn_range_C {α : Type} {g : Operand} {ps : Array Tmp} {assign body : Code} {Q : Exit → Act → World → Prop} {a : Act} {w : World}
    (hro : F.round = none) (h1 : 1 ≤ n) {gf : Nat} {lb : Array Value} (hg : a.eval g = .func (.func gf) #[] lb) (hFg : F.fn gf) (eg : ∀ args w, (callFunc gf args).run P w = .ok (.enter gf args) w)
    {encs : α → Array Value} {Kp : World → World → Prop} {S Sp : List α → Prop} {Ok : List α → α → Prop} {C : Nat → Prop} {w0 : World} (hseq : SeqC F (n - 1) P gf lb encs Kp S Sp Ok C w0)
    (hC : ∀ r, C r → r < w.heap.size) (hKt : ∀ {A B D : World}, Kp A B → Kp B D → Kp A D) (hKb : ∀ (W : World) (l : Nat) (o : Obj), w.heap.size ≤ l → Kp W (W.putObj l o)) (hb0 : Below w0.heap.size w0 w) (hps : ∀ x, (encs x).size = ps.size)
    (I : List α → World → Prop) (Ix : Code → List α → World → Prop) (hI : Stab w.heap.size C I) (hIx : ∀ c, Stab w.heap.size C (Ix c)) (h0 : I [] w)
    (Ax : List α → α → Act → World → Prop) (hAx : ∀ pre x a', Stab w.heap.size C (fun (_ : Unit) W => Ax pre x a' W))
    (hassign : ∀ (l : Nat) (pre : List α) (x : α) (W : World) (K : Act → World → Prop), I pre W → Ok pre x → (∀ a' Y, KeepsFrom w.heap.size W Y → Kp W Y → I pre Y → Ax pre x a' Y → K a' Y) →
      assign.wpIn (F.inRound l) (n - 1 - 1) P (Exit.then K (fun _ _ _ => False)) { tmps := (ps.zip (encs x)).foldl (fun t (p, v) => t.setIfInBounds p v) a.tmps, defers := [] } W)
    (hbody : ∀ (l : Nat) (pre : List α) (x : α) (a' : Act) (W : World), w.heap.size ≤ l → (∃ r, W.heap[l]? = some (.loop r)) → I pre W → Ok pre x → Ax pre x a' W → body.wpIn (F.inRound l) (n - 1 - 1) P (leftC w.heap.size Kp I Ix (pre ++ [x]) W) a' W)
    (hdone : ∀ (D : Nat) (xs : List α) (W : World), w.heap.size ≤ D → S xs → I xs W → W.heap[D]? = some (.deferred (some [])) → Q .normal { a with defers := { target := .collected D, args := #[] } :: a.defers } W)
    (hstop : ∀ (D : Nat) (c : Code) (pre : List α) (W : World), w.heap.size ≤ D → Sp pre → Ix c pre W → W.heap[D]? = some (.deferred (some [])) → c.wpIn F n P Q { a with defers := { target := .collected D, args := #[] } :: a.defers } W) :
    (Code.rangeFunc g ps assign body).wpIn F n P Q a w := by
  refine wpIn_rangeFunc fun fn hfn => ?_
  rw [hro]
  have book1 : Booked (bookOf fn a.tmps ps assign body w.heap.size) w.heap.size .ready none ((w.alloc (.deferred (some []))).alloc (.loop (bookOf fn a.tmps ps assign body w.heap.size .ready none))) := by
    refine ⟨?_, (Below.heap_alloc _ _ _ (by simp)).trans (World.alloc_heap_new w _)⟩
    have := World.alloc_heap_new (w.alloc (.deferred (some []))) (.loop (bookOf fn a.tmps ps assign body w.heap.size .ready none))
    rwa [World.size_alloc] at this
  have hb1 : Below w0.heap.size w0 ((w.alloc (.deferred (some []))).alloc (.loop (bookOf fn a.tmps ps assign body w.heap.size .ready none))) :=
    hb0.trans ((((Below.refl _ w).alloc (Nat.le_refl _) _).alloc (by simp) _).mono hb0.size)
  have hi1 := hI.alloc (.loop (bookOf fn a.tmps ps assign body w.heap.size .ready none)) (hI.alloc (.deferred (some [])) h0)
  have henter := run_enterLoop_outer (P := P) (w := w) fn a.tmps ps assign body
  generalize hW1 : (w.alloc (.deferred (some []))).alloc (.loop (bookOf fn a.tmps ps assign body w.heap.size .ready none)) = W1 at book1 hb1 hi1
  refine ⟨w.heap.size + 1, [{ target := .collected w.heap.size, args := #[] }], W1, { target := .fn (.func gf) lb, args := #[.func (.yield (w.heap.size + 1)) #[] #[]] }, W1, gf,
    #[.func (.yield (w.heap.size + 1)) #[] #[]] ++ lb, W1, ?_, ?_, ?_, ?_, fun _ => h1, ?_⟩
  · rw [← hW1]; exact henter
  · simp only [resolve, hg]; simp [go_sem]
  · intro f' hf'; simp [Target.leads] at hf'; subst hf'; exact hFg
  · simp [invoke, go_sem, eg]
  clear henter hW1
  refine (hseq (w.heap.size + 1) (fun pre W => I pre W ∧ Booked (bookOf fn a.tmps ps assign body w.heap.size) w.heap.size .ready none W)
    (fun pre W => ∃ c, Ix c pre W ∧ Booked (bookOf fn a.tmps ps assign body w.heap.size) w.heap.size .done (some c) W) W1 hb1
    (fun s X Y row hs hgr hr => ⟨hI.abC s X Y row hs.1 hgr hr, hs.2.grown hgr (fun r e => hC r (hr r e))⟩)
    (fun s X Y row hs hgr hr => by obtain ⟨c, hc, hk⟩ := hs; exact ⟨c, (hIx c).abC s X Y row hc hgr hr, hk.grown hgr (fun r e => hC r (hr r e))⟩)
    (fun pre x X hX hok => ?_) ⟨hi1, book1⟩).mono ?_
  · obtain ⟨hi, hbk⟩ := hX
    refine ⟨fn, _, assign, body, run_yield (P := P) (args := encs x) hbk.loop (hps x), roundIn_of_wpIn hfn (hassign _ pre x X _ hi hok ?_)⟩
    intro a' Y hkf hkp hiY hax
    have hbY := hbk.keeps hkf
    refine ⟨_, run_beginRound hbY.loop rfl, ?_⟩
    have hbZ : Booked (bookOf fn a.tmps ps assign body w.heap.size) w.heap.size .busy none (Y.putObj (w.heap.size + 1) (.loop { bookOf fn a.tmps ps assign body w.heap.size .ready none with state := .busy })) := hbY.turn
    refine wpIn_mono (hbody _ pre x a' _ (by omega) ⟨_, hbZ.loop⟩ (hI.put _ hiY (by omega) hbY.loop rfl) hok ((hAx pre x a').put (s := ()) _ hax (by omega) hbY.loop rfl)) ?_
    have fin : ∀ (jump : Option Code) (Z : World), KeepsFrom w.heap.size (Y.putObj (w.heap.size + 1) (.loop { bookOf fn a.tmps ps assign body w.heap.size .ready none with state := .busy })) Z →
        (Instr.endRound (w.heap.size + 1) jump).run P Z = .ok (.bool jump.isNone) (Z.putObj (w.heap.size + 1) (.loop (bookOf fn a.tmps ps assign body w.heap.size (if jump.isNone then .ready else .done) jump))) ∧
        Booked (bookOf fn a.tmps ps assign body w.heap.size) w.heap.size .busy none Z := fun jump Z hkZ =>
      ⟨run_endRound (P := P) jump (hbZ.keeps hkZ).loop, hbZ.keeps hkZ⟩
    rintro e a3 Z hp
    cases e with
    | normal =>
      obtain ⟨hk3, hkp3, hi3⟩ := hp
      obtain ⟨hr, hb3⟩ := fin none Z hk3
      exact ⟨_, _, hr, .inl ⟨rfl, ⟨hI.put _ hi3 (by omega) hb3.loop rfl, hb3.turn⟩, hKt hkp (hKt (hKt (hKb _ _ _ (by omega)) hkp3) (hKb _ _ _ (by omega)))⟩⟩
    | ret =>
      obtain ⟨hk3, hi3⟩ := hp
      obtain ⟨hr, hb3⟩ := fin (some .ret) Z hk3
      exact ⟨_, _, hr, .inr ⟨rfl, .ret, (hIx _).put _ hi3 (by omega) hb3.loop rfl, hb3.turn⟩⟩
    | exit id =>
      obtain ⟨hk3, hi3⟩ := hp
      obtain ⟨hr, hb3⟩ := fin (some (.exit id)) Z hk3
      exact ⟨_, _, hr, .inr ⟨rfl, .exit id, (hIx _).put _ hi3 (by omega) hb3.loop rfl, hb3.turn⟩⟩
    | goto t =>
      obtain ⟨hk3, hi3⟩ := hp
      obtain ⟨hr, hb3⟩ := fin (some (.goto t)) Z hk3
      exact ⟨_, _, hr, .inr ⟨rfl, .goto t, (hIx _).put _ hi3 (by omega) hb3.loop rfl, hb3.turn⟩⟩
    | panic ch => exact hp.elim
    | outgrown => exact hp.elim
  · rintro e W2 ⟨⟨v, rfl⟩, (⟨xs, hS, hi, hbk⟩ | ⟨pre, hSp, c, hi, hbk⟩)⟩
    · exact ⟨none, _, run_endLoop (P := P) hbk.loop (by simp [bookOf]), hdone _ xs _ (Nat.le_refl _) hS (hI.put _ hi (by omega) hbk.loop rfl) ((World.putObj_heap_other (by omega)).trans hbk.defs)⟩
    · exact ⟨some c, _, run_endLoop (P := P) hbk.loop (by simp [bookOf]), hstop _ c pre _ (Nat.le_refl _) hSp ((hIx c).put _ hi (by omega) hbk.loop rfl) ((World.putObj_heap_other (by omega)).trans hbk.defs)⟩
end
end Go.Proofs.YthabgfghogdkcaaDoor
namespace Go.Proofs.YthabgfghogdkcaaDoor
open Go.ChangeShapes Go.WideShapes Go.ChangeAt Go.RowKit
theorem addr_none {w : World} {x : Addr} {v : Value} (h : w.cell? x = some v) : x = ⟨x.block, x.off, none⟩ := by
  rcases x with ⟨b, o, s⟩
  rcases s with _ | s
  · rfl
  · exfalso
    unfold World.cell? at h
    simp only [Option.isSome_some, if_true] at h
    split at h <;> cases h
theorem addr_add (b o i : Nat) : (⟨b, o, none⟩ : Addr).add i = ⟨b, o + i, none⟩ := by
  rcases Nat.eq_zero_or_pos i with rfl | hp
  · rfl
  · simp [Addr.add, Nat.ne_of_gt hp]
theorem u8_of_wf {n : Int} (h : (Lit.int .u8 n).wf = true) : ((UInt8.ofNat n.toNat).toNat : Int) = n := by
  have hb := bounds_u8 h
  rw [UInt8.toNat_ofNat']
  omega
def bytesOf (zs : List Int) : List UInt8 := zs.map fun z => UInt8.ofNat z.toNat
/-- Bytes that came in. -/
structure InBytes (w : World) (A : Option Addr) (n c : Nat) (l : List UInt8) : Prop where
  len : l.length = n
  cap : n ≤ c
  most : c ≤ maxLen
  rd : Rd w A l
theorem rd_of_ints {w : World} {x : Addr} {len : Nat} {zs : List Int} (hl : len ≤ zs.length) (hc : ∀ i, i < zs.length → w.cell? (x.add i) = some (.int .u8 (zs.getD i 0))) (hw : ∀ n ∈ zs, (Lit.int .u8 n).wf = true) :
    Rd w (some x) (bytesOf (zs.take len)) := fun hne => by
  have h0 : 0 < zs.length := by
    rcases zs with _ | ⟨z, zs⟩
    · exact absurd (by simp [bytesOf]) hne
    · simp
  obtain ⟨b, o, rfl⟩ : ∃ b o, x = ⟨b, o, none⟩ := ⟨_, _, addr_none (show w.cell? x = some _ from hc 0 h0)⟩
  refine ⟨b, o, rfl, fun i hi => ?_⟩
  have hi' : i < zs.length := by
    unfold bytesOf at hi
    rw [List.length_map, List.length_take] at hi
    omega
  have h := hc i hi'
  rw [addr_add] at h
  rw [h]
  have hwz := hw zs[i] (List.getElem_mem hi')
  have e : zs.getD i 0 = zs[i] := by simp [List.getD, hi']
  rw [e]
  have e2 : (bytesOf (zs.take len))[i] = UInt8.ofNat (zs[i]).toNat := by simp [bytesOf]
  rw [e2, byteV, u8_of_wf hwz]
theorem in_bytes {H : Type} {enc : TypeId × Value → H} {P : Program} {w : World} {t e : TypeId} {held : Bool} {fuel len cap : Nat} {A : Option Addr} {x : DataW H × List MemPlace} (ht : P.underlying t = some (.slice e)) (he : P.underlying e = some (.int .u8)) (hc : P.cellsOf e = 1)
    (h : DataW.trod enc P w 0 (fun _ => true) held fuel t [.slice A len cap] = some x) : ∃ l, InBytes w A len cap l := by
  rcases open_ints ht he hc h with ⟨hcs, _⟩ | ⟨ad, l, c, zs, hcs, _, hl, hm, hz, _, hcell, hwz⟩
  · injection hcs with h1
    injection h1 with h1 h2 h3
    subst h1 h2 h3
    exact ⟨[], rfl, Nat.le_refl _, Nat.zero_le _, Rd.nil _ _⟩
  · injection hcs with h1
    injection h1 with h1 h2 h3
    subst h1 h2 h3
    simp only [if_true] at hz
    refine ⟨bytesOf (zs.take len), ?_, hl, hm, rd_of_ints (by omega) hcell hwz⟩
    unfold bytesOf
    rw [List.length_map, List.length_take]
    omega
/-- A slice of slices of bytes that came in. -/
structure InRows (w : World) (A : Option Addr) (n c : Nat) (ls : List (List UInt8)) : Prop where
  len : ls.length = n
  cap : n ≤ c
  most : c ≤ maxLen
  small : ∀ l ∈ ls, l.length ≤ maxLen
  rd : Rds w A ls
theorem in_rows {H : Type} {enc : TypeId × Value → H} {P : Program} {w : World} {t e q : TypeId} {held : Bool} {fuel len cap : Nat} {A : Option Addr} {x : DataW H × List MemPlace} (ht : P.underlying t = some (.slice e)) (he : P.underlying e = some (.slice q)) (hq : P.underlying q = some (.int .u8)) (ce : P.cellsOf e = 1) (cq : P.cellsOf q = 1)
    (h : DataW.trod enc P w 0 (fun _ => true) held fuel t [.slice A len cap] = some x) : ∃ ls, InRows w A len cap ls := by
  rcases Deep.open_int_rows ht he hq ce cq h with ⟨hcs, _⟩ | ⟨ad, l, c, A', L, C, Z, hcs, _, hl, hm, _, hr⟩
  · injection hcs with h1
    injection h1 with h1 h2 h3
    subst h1 h2 h3
    exact ⟨[], rfl, Nat.le_refl _, Nat.zero_le _, by simp, Rds.nil _ _⟩
  · injection hcs with h1
    injection h1 with h1 h2 h3
    subst h1 h2 h3
    have hlen : ∀ r, r < len → (bytesOf ((Z r).take (L r))).length = L r := fun r hr' => by
      obtain ⟨_, h2, _, h4, _⟩ := hr r (by omega)
      unfold bytesOf
      rw [List.length_map, List.length_take]
      omega
    refine ⟨(List.range len).map fun r => bytesOf ((Z r).take (L r)), by simp, hl, hm, ?_, fun hne => ?_⟩
    · intro l hl'
      obtain ⟨r, hr', rfl⟩ := List.mem_map.1 hl'
      have hr'' := List.mem_range.1 hr'
      rw [hlen r hr'']
      obtain ⟨_, h2, h3, _⟩ := hr r (by omega)
      omega
    have h0 : 0 < len := by
      rcases Nat.eq_zero_or_pos len with rfl | hp
      · exact absurd rfl hne
      · exact hp
    obtain ⟨b, o, rfl⟩ : ∃ b o, ad = ⟨b, o, none⟩ := ⟨_, _, addr_none (show w.cell? ad = some _ from (hr 0 (by omega)).1)⟩
    refine ⟨b, o, rfl, fun i hi => ?_⟩
    have hi' : i < len := by simpa using hi
    obtain ⟨h1, h2, h3, h4, h5, h6, h7⟩ := hr i (by omega)
    refine ⟨A' i, C i, ?_, ?_⟩
    · rw [addr_add] at h1
      rw [h1]
      simp [hlen i hi']
    · have e2 : ((List.range len).map fun r => bytesOf ((Z r).take (L r)))[i] = bytesOf ((Z i).take (L i)) := by simp
      rw [e2]
      rcases hA : A' i with _ | x'
      · have : C i = 0 := h6 hA
        have hZ : Z i = [] := List.eq_nil_of_length_eq_zero (by omega)
        rw [hZ, show bytesOf (List.take (L i) []) = [] from by simp [bytesOf]]
        exact Rd.nil _ _
      · exact rd_of_ints (by omega) (fun j hj => (h7 x' hA).2 j (by omega)) h5
theorem laidOut : laidOutB Tryd.prog = true := by kernel_rfl
theorem ownK : ownKnob Tryd.prog.godebug = none := by kernel_rfl
end Go.Proofs.YthabgfghogdkcaaDoor
namespace Go.Proofs.YthabgfghogdkcaaDoor.Sha
abbrev W := BitVec 32
structure St where
  a : W
  b : W
  c : W
  d : W
  e : W
  f : W
  g : W
  h : W
def St.get (x : St) : Nat → W
  | 0 => x.a
  | 1 => x.b
  | 2 => x.c
  | 3 => x.d
  | 4 => x.e
  | 5 => x.f
  | 6 => x.g
  | _ => x.h
def St.list (x : St) : List W := [x.a, x.b, x.c, x.d, x.e, x.f, x.g, x.h]
def St.add (x y : St) : St := ⟨x.a + y.a, x.b + y.b, x.c + y.c, x.d + y.d, x.e + y.e, x.f + y.f, x.g + y.g, x.h + y.h⟩
def first : St := ⟨0x6a09e667#32, 0xbb67ae85#32, 0x3c6ef372#32, 0xa54ff53a#32, 0x510e527f#32, 0x9b05688c#32, 0x1f83d9ab#32, 0x5be0cd19#32⟩
def ks : List W := [0x428a2f98#32, 0x71374491#32, 0xb5c0fbcf#32, 0xe9b5dba5#32, 0x3956c25b#32, 0x59f111f1#32, 0x923f82a4#32, 0xab1c5ed5#32,
  0xd807aa98#32, 0x12835b01#32, 0x243185be#32, 0x550c7dc3#32, 0x72be5d74#32, 0x80deb1fe#32, 0x9bdc06a7#32, 0xc19bf174#32,
  0xe49b69c1#32, 0xefbe4786#32, 0x0fc19dc6#32, 0x240ca1cc#32, 0x2de92c6f#32, 0x4a7484aa#32, 0x5cb0a9dc#32, 0x76f988da#32,
  0x983e5152#32, 0xa831c66d#32, 0xb00327c8#32, 0xbf597fc7#32, 0xc6e00bf3#32, 0xd5a79147#32, 0x06ca6351#32, 0x14292967#32,
  0x27b70a85#32, 0x2e1b2138#32, 0x4d2c6dfc#32, 0x53380d13#32, 0x650a7354#32, 0x766a0abb#32, 0x81c2c92e#32, 0x92722c85#32,
  0xa2bfe8a1#32, 0xa81a664b#32, 0xc24b8b70#32, 0xc76c51a3#32, 0xd192e819#32, 0xd6990624#32, 0xf40e3585#32, 0x106aa070#32,
  0x19a4c116#32, 0x1e376c08#32, 0x2748774c#32, 0x34b0bcb5#32, 0x391c0cb3#32, 0x4ed8aa4a#32, 0x5b9cca4f#32, 0x682e6ff3#32,
  0x748f82ee#32, 0x78a5636f#32, 0x84c87814#32, 0x8cc70208#32, 0x90befffa#32, 0xa4506ceb#32, 0xbef9a3f7#32, 0xc67178f2#32]
def kc (t : Nat) : W := ks.getD t 0#32
def ror (x : W) (n : Nat) : W := (x >>> n) ||| (x <<< (32 - n))
def S0 (x : W) : W := ror x 2 ^^^ ror x 13 ^^^ ror x 22
def S1 (x : W) : W := ror x 6 ^^^ ror x 11 ^^^ ror x 25
def s0 (x : W) : W := ror x 7 ^^^ ror x 18 ^^^ (x >>> 3)
def s1 (x : W) : W := ror x 17 ^^^ ror x 19 ^^^ (x >>> 10)
def ch (e f g : W) : W := g ^^^ (e &&& (f ^^^ g))
def maj (a b c : W) : W := (a &&& (b ||| c)) ||| (b &&& c)
def rnd (k w : W) (x : St) : St :=
  ⟨x.h + S1 x.e + ch x.e x.f x.g + k + w + (S0 x.a + maj x.a x.b x.c), x.a, x.b, x.c, x.d + (x.h + S1 x.e + ch x.e x.f x.g + k + w), x.e, x.f, x.g⟩
def nxt (l : List W) : W := s1 (l.getD 1 0#32) + l.getD 6 0#32 + s0 (l.getD 14 0#32) + l.getD 15 0#32
def Ms (m : Nat → W) : Nat → List W
  | 0 => []
  | t + 1 => (if t < 16 then m t else nxt (Ms m t)) :: Ms m t
def M (m : Nat → W) (t : Nat) : W := (Ms m (t + 1)).headD 0#32
theorem Ms_len (m : Nat → W) (t : Nat) : (Ms m t).length = t := by
  induction t with
  | zero => rfl
  | succ t ih => rw [Ms, List.length_cons, ih]
theorem Ms_get (m : Nat → W) (t : Nat) : ∀ i, i < t → (Ms m t).getD i 0#32 = M m (t - 1 - i) := by
  induction t with
  | zero => intro i h; omega
  | succ t ih =>
    intro i h
    rcases i with _ | i
    · rfl
    · rw [Ms, List.getD_cons_succ, ih i (by omega)]
      congr 1
      omega
theorem M_lt (m : Nat → W) {t : Nat} (h : t < 16) : M m t = m t := by
  unfold M
  rw [Ms, if_pos h]
  rfl
theorem M_ge (m : Nat → W) {t : Nat} (h : 16 ≤ t) : M m t = s1 (M m (t - 2)) + M m (t - 7) + s0 (M m (t - 15)) + M m (t - 16) := by
  unfold M
  rw [Ms, if_neg (by omega)]
  show nxt (Ms m t) = _
  unfold nxt
  rw [Ms_get m t 1 (by omega), Ms_get m t 6 (by omega), Ms_get m t 14 (by omega), Ms_get m t 15 (by omega)]
  rw [show t - 1 - 1 = t - 2 from by omega, show t - 1 - 6 = t - 7 from by omega, show t - 1 - 14 = t - 15 from by omega, show t - 1 - 15 = t - 16 from by omega]
  rfl
def rs (x : St) (m : Nat → W) : Nat → St
  | 0 => x
  | t + 1 => rnd (kc t) (M m t) (rs x m t)
def press (x : St) (m : Nat → W) : St := (rs x m 64).add x
def zx (c : UInt8) : W := BitVec.setWidth 32 c.toBitVec
def be (l : List UInt8) : W := l.foldl (fun n x => (n <<< 8) ||| zx x) 0#32
def wd (l : List UInt8) (i : Nat) : W := be ((l.drop (4 * i)).take 4)
def blk (x : St) (l : List UInt8) : St := press x (wd l)
def foldN : Nat → St → List UInt8 → St
  | 0, x, _ => x
  | n + 1, x, l => foldN n (blk x (l.take 64)) (l.drop 64)
theorem foldN_add (n k : Nat) : ∀ (x : St) (l : List UInt8), foldN (n + k) x l = foldN k (foldN n x l) (l.drop (64 * n)) := by
  induction n with
  | zero => intro x l; simp [foldN]
  | succ n ih =>
    intro x l
    rw [Nat.succ_add, foldN, ih, foldN, List.drop_drop]
    congr 2
    omega
theorem foldN_left (n : Nat) : ∀ (x : St) (l b : List UInt8), 64 * n ≤ l.length → foldN n x (l ++ b) = foldN n x l := by
  induction n with
  | zero => intro x l b _; rfl
  | succ n ih =>
    intro x l b h
    rw [foldN, foldN, List.take_append_of_le_length (by omega), List.drop_append_of_le_length (by omega), ih]
    rw [List.length_drop]; omega
def state (l : List UInt8) : St := foldN (l.length / 64) first l
def left (l : List UInt8) : List UInt8 := l.drop (64 * (l.length / 64))
theorem left_len (l : List UInt8) : (left l).length = l.length % 64 := by unfold left; rw [List.length_drop]; omega
/-- Bytes that do not fill the block. -/
theorem state_part (l b : List UInt8) (h : l.length % 64 + b.length < 64) : state (l ++ b) = state l ∧ left (l ++ b) = left l ++ b := by
  have e : (l ++ b).length / 64 = l.length / 64 := by rw [List.length_append]; omega
  refine ⟨?_, ?_⟩
  · unfold state; rw [e, foldN_left _ _ _ _ (by omega)]
  · unfold left; rw [e, List.drop_append_of_le_length (by omega)]
/-- Bytes that fill it. -/
theorem state_full (l b : List UInt8) (h : l.length % 64 + b.length = 64) : state (l ++ b) = blk (state l) (left l ++ b) ∧ left (l ++ b) = [] := by
  have e : (l ++ b).length / 64 = l.length / 64 + 1 := by rw [List.length_append]; omega
  have hd : (l ++ b).drop (64 * (l.length / 64)) = left l ++ b := by unfold left; rw [List.drop_append_of_le_length (by omega)]
  have hl : (left l ++ b).length = 64 := by rw [List.length_append, left_len]; exact h
  refine ⟨?_, ?_⟩
  · unfold state
    rw [e, foldN_add, foldN_left _ _ _ _ (by omega), hd, foldN, foldN, List.take_of_length_le (by omega)]
  · unfold left; rw [e]; exact List.drop_eq_nil_of_le (by rw [List.length_append]; omega)
def zeros (n : Nat) : List UInt8 := List.replicate n 0
def told (n many : Nat) : List UInt8 := (List.range many).map fun i => UInt8.ofNat (n / 256 ^ (many - 1 - i))
def noughts (n : Nat) : Nat := (119 - n % 64) % 64
def padded (l : List UInt8) : List UInt8 := l ++ (128 :: zeros (noughts l.length)) ++ told (l.length * 8) 8
def toldSt (x : St) : List UInt8 := (x.list.map fun w => told w.toNat 4).flatten
def sum (l : List UInt8) : List UInt8 := toldSt (state (padded l))
def twice (l : List UInt8) : List UInt8 := sum (sum l)
def named (name l : List UInt8) : List UInt8 := sum (sum name ++ sum name ++ l)
theorem told_len (n many : Nat) : (told n many).length = many := by simp [told]
theorem padded_len (l : List UInt8) : (padded l).length % 64 = 0 := by
  unfold padded zeros noughts
  simp only [List.length_append, List.length_cons, List.length_replicate, told_len]
  omega
theorem padded_left (l : List UInt8) : left (padded l) = [] := List.eq_nil_of_length_eq_zero (by rw [left_len, padded_len])
theorem toldSt_len (x : St) : (toldSt x).length = 32 := by simp [toldSt, St.list, told_len]
theorem sum_len (l : List UInt8) : (sum l).length = 32 := toldSt_len _
theorem ch_bit (e f g : W) (i : Nat) : (ch e f g).getLsbD i = if e.getLsbD i then f.getLsbD i else g.getLsbD i := by
  simp only [ch, BitVec.getLsbD_xor, BitVec.getLsbD_and]
  cases e.getLsbD i <;> cases f.getLsbD i <;> cases g.getLsbD i <;> rfl
theorem maj_bit (a b c : W) (i : Nat) : (maj a b c).getLsbD i = decide (2 ≤ (a.getLsbD i).toNat + (b.getLsbD i).toNat + (c.getLsbD i).toNat) := by
  simp only [maj, BitVec.getLsbD_or, BitVec.getLsbD_and]
  cases a.getLsbD i <;> cases b.getLsbD i <;> cases c.getLsbD i <;> rfl
/-- The low k bits. -/
theorem low_succ (x : W) (k : Nat) : x.toNat % 2 ^ (k + 1) = x.toNat % 2 ^ k + (x.getLsbD k).toNat * 2 ^ k := by
  have h2 : (x.getLsbD k).toNat = x.toNat / 2 ^ k % 2 := by
    show (x.toNat.testBit k).toNat = _
    rw [Nat.testBit_eq_decide_div_mod_eq]
    by_cases h : x.toNat / 2 ^ k % 2 = 1
    · rw [decide_eq_true h, h]; rfl
    · rw [decide_eq_false h]; simp; omega
  rw [h2, Nat.pow_succ, Nat.mod_mul, Nat.mul_comm (2 ^ k)]
theorem low_all (x : W) : x.toNat % 2 ^ 32 = x.toNat := Nat.mod_eq_of_lt x.isLt
def ringAt (m : Nat → W) (t j : Nat) : W := M m ((max t 16) - 1 - (((max t 16) - 1 - j) % 16))
theorem ringAt_low (m : Nat → W) (t j : Nat) (h : t ≤ 16) (hj : j < 16) : ringAt m t j = m j := by
  unfold ringAt
  rw [show max t 16 = 16 from by omega, show 16 - 1 - ((16 - 1 - j) % 16) = j from by omega, M_lt m hj]
theorem ringAt_read (m : Nat → W) (t i : Nat) (h : 16 ≤ t) (hi : i < 16) : ringAt m t ((t + i) % 16) = M m (t - 16 + i) := by
  unfold ringAt
  rw [show max t 16 = t from by omega]
  congr 1
  omega
theorem ringAt_new (m : Nat → W) (t : Nat) (h : 16 ≤ t) : ringAt m (t + 1) (t % 16) = M m t := by
  unfold ringAt
  rw [show max (t + 1) 16 = t + 1 from by omega]
  congr 1
  omega
theorem ringAt_old (m : Nat → W) (t j : Nat) (hj : j < 16) (hne : j ≠ t % 16 ∨ t < 16) : ringAt m (t + 1) j = ringAt m t j := by
  unfold ringAt
  by_cases h : 16 ≤ t
  · rw [show max (t + 1) 16 = t + 1 from by omega, show max t 16 = t from by omega]
    congr 1
    omega
  · rw [show max (t + 1) 16 = 16 from by omega, show max t 16 = 16 from by omega]
theorem ring_sum (m : Nat → W) (t : Nat) (h : 16 ≤ t) : M m (t - 16) + (s0 (M m (t - 15)) + M m (t - 7) + s1 (M m (t - 2))) = M m t := by
  rw [M_ge m h]
  generalize M m (t - 16) = a
  generalize s0 (M m (t - 15)) = b
  generalize M m (t - 7) = c
  generalize s1 (M m (t - 2)) = d
  rw [BitVec.add_comm a, BitVec.add_comm d c, BitVec.add_assoc c, BitVec.add_comm d b, ← BitVec.add_assoc c, BitVec.add_comm c b]
example : sum [97, 98, 99] = [0xba, 0x78, 0x16, 0xbf, 0x8f, 0x01, 0xcf, 0xea, 0x41, 0x41, 0x40, 0xde, 0x5d, 0xae, 0x22, 0x23, 0xb0, 0x03, 0x61, 0xa3, 0x96, 0x17, 0x7a, 0x9c, 0xb4, 0x10, 0xff, 0x61, 0xf2, 0x00, 0x15, 0xad] := by decide +kernel
end Go.Proofs.YthabgfghogdkcaaDoor.Sha
namespace Go.Proofs.YthabgfghogdkcaaDoor
open Go.RowKit
abbrev wordV (x : BitVec 32) : Value := .int .u32 (x.toNat : Int)
abbrev intV (n : Nat) : Value := .int .i64 (n : Int)
theorem bv_or (x y : BitVec 32) : bits .or .u32 (x.toNat : Int) (y.toNat : Int) = ((x ||| y).toNat : Int) := by rw [u32_or_nat _ _ x.isLt y.isLt, BitVec.toNat_or]
theorem bv_and (x y : BitVec 32) : bits .and .u32 (x.toNat : Int) (y.toNat : Int) = ((x &&& y).toNat : Int) := by rw [u32_and_nat _ _ x.isLt y.isLt, BitVec.toNat_and]
theorem bv_xor (x y : BitVec 32) : bits .xor .u32 (x.toNat : Int) (y.toNat : Int) = ((x ^^^ y).toNat : Int) := by rw [u32_xor_nat _ _ x.isLt y.isLt, BitVec.toNat_xor]
theorem bv_add (x y : BitVec 32) : ((x.toNat : Int) + (y.toNat : Int)) % 4294967296 = ((x + y).toNat : Int) := by rw [BitVec.toNat_add]; omega
theorem bv_shl (x : BitVec 32) (k : Nat) : (x.toNat : Int) * 2 ^ k % 4294967296 = ((x <<< k).toNat : Int) := by
  rw [BitVec.toNat_shiftLeft, Nat.shiftLeft_eq, Int.natCast_emod, Int.natCast_mul, Int.natCast_pow]
  rfl
theorem bv_shr (x : BitVec 32) (k : Nat) : (x.toNat : Int) / 2 ^ k = ((x >>> k).toNat : Int) := by
  rw [BitVec.toNat_ushiftRight, Nat.shiftRight_eq_div_pow, Int.natCast_ediv, Int.natCast_pow]
  rfl
theorem ret_u32 {a b : Int} (h : a = b) : Ending.returned (.int .u32 a) = .returned (.int .u32 b) := by rw [h]
theorem load32 {b o : Nat} {x : BitVec 32} {W : World} (hc : W.cell? ⟨b, o, none⟩ = some (.int .u32 (x.toNat : Int))) : (Instr.loadAt 88 (.pointer (some ⟨b, o, none⟩))).run Tryd.prog W = .ok (wordV x) W := by
  go_simp
theorem loadI {b o : Nat} {x : Int} {W : World} (hc : W.cell? ⟨b, o, none⟩ = some (.int .i64 x)) : (Instr.loadAt 3 (.pointer (some ⟨b, o, none⟩))).run Tryd.prog W = .ok (.int .i64 x) W := by
  go_simp
theorem store32 {b o : Nat} {x : BitVec 32} {v : Value} {W : World} (hc : W.cell? ⟨b, o, none⟩ = some v) (hf : W.frozen? ⟨b, o, none⟩ = false) : (Instr.storeAt 88 (.pointer (some ⟨b, o, none⟩)) (wordV x)).run Tryd.prog W = .ok () (W.setCell ⟨b, o, none⟩ (wordV x)) := by
  go_simp
theorem addI {x y : Int} {W : World} (h1 : -9223372036854775808 ≤ x + y) (h2 : x + y ≤ 9223372036854775807) : (binOp .add 3 (.int .i64 x) (.int .i64 y)).run Tryd.prog W = .ok (.int .i64 (x + y)) W := by
  have e := IntWalk.i64_in (x + y) (by omega)
  have h : (binOp .add 3 (.int .i64 x) (.int .i64 y)).run Tryd.prog W = .ok (.int .i64 (IntKind.i64.wrap (x + y))) W := by kernel_rfl
  rw [h, e]
theorem add32 {x y : BitVec 32} {W : World} : (binOp .add 88 (wordV x) (wordV y)).run Tryd.prog W = .ok (wordV (x + y)) W := by
  have h : (binOp .add 88 (wordV x) (wordV y)).run Tryd.prog W = .ok (.int .u32 (IntKind.u32.wrap ((x.toNat : Int) + (y.toNat : Int)))) W := by kernel_rfl
  rw [h, IntKind.wrap_u32', bv_add]
theorem xor32 {x y : BitVec 32} {W : World} : (binOp .xor 88 (wordV x) (wordV y)).run Tryd.prog W = .ok (wordV (x ^^^ y)) W := by
  have h : (binOp .xor 88 (wordV x) (wordV y)).run Tryd.prog W = .ok (.int .u32 (bits .xor .u32 (x.toNat : Int) (y.toNat : Int))) W := by kernel_rfl
  rw [h, bv_xor]
theorem and32 {x y : BitVec 32} {W : World} : (binOp .and 88 (wordV x) (wordV y)).run Tryd.prog W = .ok (wordV (x &&& y)) W := by
  have h : (binOp .and 88 (wordV x) (wordV y)).run Tryd.prog W = .ok (.int .u32 (bits .and .u32 (x.toNat : Int) (y.toNat : Int))) W := by kernel_rfl
  rw [h, bv_and]
theorem or32 {x y : BitVec 32} {W : World} : (binOp .or 88 (wordV x) (wordV y)).run Tryd.prog W = .ok (wordV (x ||| y)) W := by
  have h : (binOp .or 88 (wordV x) (wordV y)).run Tryd.prog W = .ok (.int .u32 (bits .or .u32 (x.toNat : Int) (y.toNat : Int))) W := by kernel_rfl
  rw [h, bv_or]
theorem remI {x y : Nat} {W : World} (h0 : 0 < y) (hx : x < 9223372036854775808) (hy : y < 9223372036854775808) : (binOp .rem 3 (.int .i64 (x : Int)) (.int .i64 (y : Int))).run Tryd.prog W = .ok (.int .i64 ((x % y : Nat) : Int)) W := by
  have hne : ((y : Int) == 0) = false := by rw [beq_eq_false_iff_ne]; omega
  have e : ((x : Int).tmod (y : Int)) = ((x % y : Nat) : Int) := by rw [Int.tmod_eq_emod_of_nonneg (by omega)]; rfl
  go_simp
  omega
theorem eqg_add {T : TypeId} {x y : Operand} {vx vy : Value} {P : Program} {W : World} : (eqGuard .add T x y vx vy).run P W = .ok () W := rfl
theorem eqg_xor {T : TypeId} {x y : Operand} {vx vy : Value} {P : Program} {W : World} : (eqGuard .xor T x y vx vy).run P W = .ok () W := rfl
theorem eqg_and {T : TypeId} {x y : Operand} {vx vy : Value} {P : Program} {W : World} : (eqGuard .and T x y vx vy).run P W = .ok () W := rfl
theorem eqg_or {T : TypeId} {x y : Operand} {vx vy : Value} {P : Program} {W : World} : (eqGuard .or T x y vx vy).run P W = .ok () W := rfl
theorem eqg_rem {T : TypeId} {x y : Operand} {vx vy : Value} {P : Program} {W : World} : (eqGuard .rem T x y vx vy).run P W = .ok () W := rfl
section
variable {P : Program} {Q : Exit → Act → World → Prop} {o : Oper} {a : Act} {W : World} {R : Value → World → Prop}
theorem op_nil {x : Operand} {ad : Addr} (ho : o.op = .nilCheck x) (hx : a.eval x = .pointer (some ad)) (h : R (.pointer (some ad)) W) : o.wp P a W (fun a' W' => ∃ v, a' = a.put o.dst v ∧ Later W W' ∧ R v W') Q := by
  refine op_value (v := .pointer (some ad)) (W' := W) ?_ (Later.refl _) h
  unfold execOp
  simp only [ho, hx, Sem.run_pure]
theorem op_idx {t : TypeId} {x y : Operand} {vx vy v : Value} (ho : o.op = .indexAddr t x y) (hx : a.eval x = vx) (hy : a.eval y = vy) (hr : (Instr.indexAt t vx vy).run P W = .ok v W) (h : R v W) : o.wp P a W (fun a' W' => ∃ v, a' = a.put o.dst v ∧ Later W W' ∧ R v W') Q := by
  refine op_value (v := v) (W' := W) ?_ (Later.refl _) h
  unfold execOp
  simp only [ho, hx, hy, hr, Sem.run_bind, Sem.run_pure, Result.andThen_ok]
theorem op_fieldAddr {t : TypeId} {x : Operand} {i : Nat} {vx v : Value} (ho : o.op = .fieldAddr t x i) (hx : a.eval x = vx) (hr : (Instr.fieldAt t vx i).run P W = .ok v W) (h : R v W) : o.wp P a W (fun a' W' => ∃ v, a' = a.put o.dst v ∧ Later W W' ∧ R v W') Q := by
  refine op_value (v := v) (W' := W) ?_ (Later.refl _) h
  unfold execOp
  simp only [ho, hx, hr, Sem.run_bind, Sem.run_pure, Result.andThen_ok]
end
end Go.Proofs.YthabgfghogdkcaaDoor
namespace Go.Proofs.YthabgfghogdkcaaDoor
open Go.RowKit
theorem u64_and31 (s : Nat) (h : s < 18446744073709551616) : bits .and .u64 (s : Int) 31 = ((s % 32 : Nat) : Int) := by
  rw [show (31 : Int) = ((31 : Nat) : Int) from rfl, u64_and_nat _ _ h (by decide), nat_mask5]
theorem rotl_val (x : BitVec 32) (k : Nat) (h1 : 1 ≤ k) (h2 : k ≤ 31) : bits .or .u32 ((x.toNat : Int) * 2 ^ k % 4294967296) ((x.toNat : Int) / 2 ^ (32 - k)) = ((Sha.ror x (32 - k)).toNat : Int) := by
  rw [bv_shl, bv_shr, bv_or, Sha.ror, BitVec.or_comm, show 32 - (32 - k) = k from by omega]
theorem rotl_up (x : BitVec 32) (k : Nat) (h1 : 1 ≤ k) (h2 : k ≤ 31) (w : World) :
    Calls Tryd.prog 88 #[.int .u32 (x.toNat : Int), .int .i64 (k : Int)] w fun e w' => e = .returned (.int .u32 ((Sha.ror x (32 - k)).toNat : Int)) ∧ w = w' := by
  have hx := x.isLt
  have ha := u64_and31 k (by omega)
  rw [Nat.mod_eq_of_lt (by omega)] at ha
  go_enter Tryd.func88, Tryd.ntmps88
  go_wp2
  go_ret
  exact ⟨ret_u32 (rotl_val x k h1 h2), rfl⟩
theorem rotl_down (x : BitVec 32) (n : Nat) (h1 : 1 ≤ n) (h2 : n ≤ 31) (w : World) :
    Calls Tryd.prog 88 #[.int .u32 (x.toNat : Int), .int .i64 (-(n : Int))] w fun e w' => e = .returned (.int .u32 ((Sha.ror x n).toNat : Int)) ∧ w = w' := by
  have hx := x.isLt
  obtain ⟨k, hk⟩ : ∃ k, 32 - n = k := ⟨_, rfl⟩
  have ha := u64_and31 (18446744073709551616 - n) (by omega)
  rw [show (18446744073709551616 - n) % 32 = k from by omega] at ha
  have hw : IntKind.u64.wrap (-(n : Int)) = ((18446744073709551616 - n : Nat) : Int) := by simp [IntKind.wrap, IntKind.bits, IntKind.signed]; omega
  have hkn : n = 32 - k := by omega
  have hk1 : 1 ≤ k := by omega
  have hk2 : k ≤ 31 := by omega
  rw [← hw] at ha
  have HK := Lib.hid hkn
  clear hk hw hkn
  go_enter Tryd.func88, Tryd.ntmps88
  go_wp2
  go_ret
  exact ⟨ret_u32 (by rw [HK.out]; exact rotl_val x k hk1 hk2), rfl⟩
theorem rotl_sub (x : BitVec 32) (n : Nat) (h1 : 1 ≤ n) (h2 : n ≤ 31) (w : World) :
    Calls Tryd.prog 88 #[.int .u32 (x.toNat : Int), .int .i64 (32 - (n : Int))] w fun e w' => e = .returned (.int .u32 ((Sha.ror x n).toNat : Int)) ∧ w = w' := by
  have h := rotl_up x (32 - n) (by omega) (by omega) w
  rw [show 32 - (32 - n) = n from by omega, show ((32 - n : Nat) : Int) = 32 - (n : Int) from by omega] at h
  exact h
def rots (x : BitVec 32) (s : Nat) (ps : List Nat) : BitVec 32 := ps.foldl (fun y n => y ^^^ Sha.ror x n) (x >>> s)
theorem rots_snoc (x : BitVec 32) (s : Nat) (ps : List Nat) (n : Nat) : rots x s (ps ++ [n]) = rots x s ps ^^^ Sha.ror x n := by simp [rots]
/-- A function that makes such a word. -/
structure IsRot (w : World) (v : Value) (s : Nat) (ps : List Nat) (bs bp bl : Nat) : Prop where
  val : v = .func (.func 94) #[] #[.pointer (some ⟨bs, 0, none⟩), .pointer (some ⟨bp, 0, none⟩)]
  sh : Row w bs 3 #[intV s]
  pl : Row w bp 119 #[.slice (some ⟨bl, 0, none⟩) ps.length ps.length]
  li : Row w bl 3 (ps.map intV).toArray
theorem IsRot.keep {w w' : World} {v : Value} {s : Nat} {ps : List Nat} {bs bp bl : Nat} (h : IsRot w v s ps bs bp bl) (h1 : w'.heap[bs]? = w.heap[bs]?) (h2 : w'.heap[bp]? = w.heap[bp]?) (h3 : w'.heap[bl]? = w.heap[bl]?) : IsRot w' v s ps bs bp bl :=
  ⟨h.val, h1.trans h.sh, h2.trans h.pl, h3.trans h.li⟩
theorem IsRot.later {w w' : World} {v : Value} {s : Nat} {ps : List Nat} {bs bp bl : Nat} (h : IsRot w v s ps bs bp bl) (hL : Later w w') : IsRot w' v s ps bs bp bl :=
  ⟨h.val, h.sh.later hL, h.pl.later hL, h.li.later hL⟩
set_option maxHeartbeats 400000 in
theorem rots_any (x : BitVec 32) (v : Value) (s : Nat) (ps : List Nat) (bs bp bl : Nat) (w : World) (hs : s ≤ 32) (hp : ∀ n ∈ ps, 1 ≤ n ∧ n ≤ 31) (hl : ps.length ≤ 100) (h : IsRot w v s ps bs bp bl) :
    Calls Tryd.prog 94 #[.int .u32 (x.toNat : Int), .pointer (some ⟨bs, 0, none⟩), .pointer (some ⟨bp, 0, none⟩)] w fun e w' => e = .returned (.int .u32 ((rots x s ps).toNat : Int)) ∧ w = w' := by
  have hx := x.isLt
  have hc1 : w.cell? ⟨bs, 0, none⟩ = some (.int .i64 (s : Int)) := (h.sh.cell 0).trans rfl
  have hc2 : w.cell? ⟨bp, 0, none⟩ = some (.slice (some ⟨bl, 0, none⟩) ps.length ps.length) := (h.pl.cell 0).trans rfl
  have hli := h.li
  have HP := Lib.hid hp
  have h0 : rots x s [] = x >>> s := rfl
  have H0 := Lib.hid h0
  clear h hp h0
  go_enter Tryd.func94, Tryd.ntmps94
  go_wp2
  go_loop [5, 13] (fun y t => ∃ k : Nat, k ≤ ps.length ∧ t = .int .i64 k ∧ y = .int .u32 ((rots x s (ps.take k)).toNat : Int)) (fun _ t => ps.length - (intOf t).toNat)
  case atStart => exact ⟨0, by omega, rfl, by rw [List.take_zero, H0.out, bv_shr]⟩
  case round =>
    obtain ⟨k, hk, rfl, rfl⟩ := hrel
    by_cases hlt : k < ps.length
    · obtain ⟨p, hpk⟩ : ∃ p, ps[k] = p := ⟨_, rfl⟩
      have hc3 : w.cell? ⟨bl, k, none⟩ = some (.int .i64 (p : Int)) := (hli.cell k).trans (by simp [hlt, hpk])
      obtain ⟨hp1, hp2⟩ := HP.out p (by rw [← hpk]; exact List.getElem_mem hlt)
      have hn : rots x s (ps.take (k + 1)) = rots x s (ps.take k) ^^^ Sha.ror x p := by rw [List.take_succ_eq_append_getElem hlt, rots_snoc, hpk]
      have HN := Lib.hid hn
      clear hn hpk
      generalize rots x s (ps.take k) = y at *
      go_wp2_with (first | (go_at_call 88; refine (rotl_sub x p hp1 hp2 _).mono ?_; rintro e w' ⟨rfl, rfl⟩))
      go_round
      case rel => exact ⟨k + 1, by omega, by go_num, by rw [HN.out, bv_xor]⟩
      case measure => simp [intOf]; omega
    · obtain rfl : k = ps.length := by omega
      rw [List.take_length]
      go_wp2
      go_ret
      exact ⟨rfl, rfl⟩
theorem be_snoc (l : List UInt8) (c : UInt8) : Sha.be (l ++ [c]) = (Sha.be l <<< 8) ||| Sha.zx c := by simp [Sha.be]
theorem zxv (c : UInt8) : (c.toNat : Int) = ((Sha.zx c).toNat : Int) := by
  unfold Sha.zx
  rw [BitVec.toNat_setWidth]
  have := c.toNat_lt
  show (c.toNat : Int) = ((c.toNat % 2 ^ 32 : Nat) : Int)
  omega
theorem number_any (A : Option Addr) (n c : Nat) (l : List UInt8) (w : World) (hn : l.length = n) (hm : n ≤ 1099511627776) (hr : Rd w A l) :
    Calls Tryd.prog 89 #[.slice A n c] w fun e w' => e = .returned (.int .u32 ((Sha.be l).toNat : Int)) ∧ w = w' := by
  subst hn
  have h0 : ((Sha.be []).toNat : Int) = 0 := rfl
  have H0 := Lib.hid h0
  clear h0
  go_enter Tryd.func89, Tryd.ntmps89
  go_wp2
  go_loop [2, 7] (fun v t => ∃ k : Nat, k ≤ l.length ∧ t = .int .i64 k ∧ v = .int .u32 ((Sha.be (l.take k)).toNat : Int)) (fun _ t => l.length - (intOf t).toNat)
  case atStart => exact ⟨0, by omega, rfl, by rw [List.take_zero, H0.out]⟩
  case round =>
    obtain ⟨k, hk, rfl, rfl⟩ := hrel
    by_cases hlt : k < l.length
    · obtain ⟨b, o, rfl, hc⟩ := hr.at_ hlt
      have hnext : Sha.be (l.take (k + 1)) = (Sha.be (l.take k) <<< 8) ||| Sha.zx l[k] := by
        rw [List.take_succ_eq_append_getElem hlt, be_snoc]
      have HN := Lib.hid hnext
      clear hnext
      generalize Sha.be (l.take k) = z at *
      replace hc : w.cell? ⟨b, o + k, none⟩ = some (.int .u8 (l[k].toNat : Int)) := hc
      generalize l[k] = q at *
      have hql := q.toNat_lt
      have hzl := z.isLt
      go_wp2
      go_round
      case rel => exact ⟨k + 1, by omega, by go_num, by rw [HN.out, ← bv_or, ← bv_shl, ← zxv]; rfl⟩
      case measure => simp [intOf]; omega
    · obtain rfl : k = l.length := by omega
      rw [List.take_length]
      go_wp2
      go_ret
      exact ⟨rfl, rfl⟩
end Go.Proofs.YthabgfghogdkcaaDoor
namespace Go.Proofs.YthabgfghogdkcaaDoor
open Go.RowKit
section
variable {P : Program} {ops : Array Oper} {rest : List Oper} {o : Oper} {a : Act} {w : World} {Q : Exit → Act → World → Prop}
theorem wpList_buildC (hgd : o.guard = none) (T : TypeId) (parts : Array (Nat × Operand)) (ho : o.op = .build T parts) (vs : Array (Nat × Value)) (hp : (parts.map fun (i, x) => (i, a.eval x)) = vs)
    {v : Value} {w' : World} (hr : (Instr.build T vs).run P w = .ok v w')
    (h : wpList P ops Q rest (a.put o.dst v) w') : wpList P ops Q (o :: rest) a w :=
  wpList_plain hgd fun _ hK => by
    unfold Oper.wp execOp
    simp only [ho, Sem.run_bind, Sem.run_pure, Result.andThen_ok, hp, hr]
    exact hK _ _ h
end
def kCells : Array Value := (Sha.ks.map wordV).toArray
def z64 : Array Value := Array.replicate 64 (.int .u32 0)
theorem info64 : (Tryd.prog.info? 120).map (·.size) = some 64 := by kernel_rfl
theorem alloc64 (w : World) : (Instr.alloc 120 true (.tuple #[])).run Tryd.prog w = .ok (.pointer (some ⟨w.heap.size, 0, none⟩)) (w.alloc (.cells z64 120)) := by kernel_rfl
def kParts : Array (Nat × Value) := ((List.range 64).map fun i => (i, wordV (Sha.kc i))).toArray
theorem buildK (w : World) : (Instr.build 120 kParts).run Tryd.prog w = .ok (.agg kCells) w := by kernel_rfl
theorem kCells_size : kCells.size = 64 := by simp [kCells, Sha.ks]
theorem kCells_one : kCells.all (·.oneCell') = true := by kernel_rfl
theorem kCells_get (t : Nat) (h : t < 64) : kCells[t]? = some (.int .u32 ((Sha.kc t).toNat : Int)) := by
  unfold kCells Sha.kc
  have : t < Sha.ks.length := h
  simp [this]
theorem storeK (w : World) : (Instr.storeAt 120 (.pointer (some ⟨w.heap.size, 0, none⟩)) (.agg kCells)).run Tryd.prog (w.alloc (.cells z64 120)) = .ok () (w.alloc (.cells kCells 120)) :=
  run_storeAt_new w 120 z64 kCells (by rw [kCells_size]; exact info64) (by rw [kCells_size]; simp [z64]) kCells_one
set_option maxRecDepth 100000 in
theorem constants_any (w : World) : Calls Tryd.prog 90 #[] w fun e w' => e = .returned (.agg kCells) ∧ Below w.heap.size w w' := by
  go_enter Tryd.func90, Tryd.ntmps90
  go_wp2_with (first
    | (with_reducible refine wpList_alloc rfl 120 rfl (alloc64 _) ?_)
    | (refine wpList_buildC rfl 120 _ rfl kParts (by kernel_rfl) (buildK _) ?_)
    | (refine wpList_store rfl 120 (.tmp 0) (.tmp 1) rfl (.pointer (some ⟨w.heap.size, 0, none⟩)) (.agg kCells) rfl rfl (storeK _) ?_))
  refine bodyPost_ret (results_cell_row rfl _ _ w.heap.size 120 kCells (0, 0) _ rfl (Row.new w 120 kCells) Tryd.underlying120 rfl (by rw [kCells_size]; exact info64)) rfl ⟨rfl, below_new w _⟩
theorem rotations_any (s : Nat) (n bl : Nat) (w : World) :
    Calls Tryd.prog 91 #[.int .i64 (s : Int), .slice (some ⟨bl, 0, none⟩) n n] w fun e w' => e = .returned (.func (.func 94) #[] #[.pointer (some ⟨w.heap.size, 0, none⟩), .pointer (some ⟨w.heap.size + 1, 0, none⟩)]) ∧ (w.alloc (.cells #[intV s] 3)).alloc (.cells #[.slice (some ⟨bl, 0, none⟩) n n] 119) = w' := by
  go_enter Tryd.func91, Tryd.ntmps91
  go_wp2
  go_ret
  exact ⟨rfl, rfl⟩
theorem at_any (i : Int) (t j bx bt : Nat) (w : World) (h1 : 0 ≤ i) (h2 : i ≤ 7) (ht : t < 64) (hj : (i + 64 - (t : Int)) % 8 = (j : Int)) (hc : w.cell? ⟨bt, 0, none⟩ = some (.int .i64 (t : Int))) :
    Calls Tryd.prog 93 #[.int .i64 i, .pointer (some ⟨bx, 0, none⟩), .pointer (some ⟨bt, 0, none⟩)] w fun e w' => e = .returned (.pointer (some ⟨bx, j, none⟩)) ∧ w = w' := by
  have hj8 : j < 8 := by omega
  go_enter Tryd.func93, Tryd.ntmps93
  go_wp2
  go_ret
  exact ⟨rfl, rfl⟩
end Go.Proofs.YthabgfghogdkcaaDoor
namespace Go.Proofs.YthabgfghogdkcaaDoor
open Go.RowKit Go.Shelf
attribute [local go_sem] Oper.semAt_some
/-- A block that holds a function that rotates; S: blocks that stay. -/
def IsFn (w : World) (b s : Nat) (ps : List Nat) (S : Nat → Prop) : Prop := ∃ v bs bp bl, Row w b 141 #[v] ∧ IsRot w v s ps bs bp bl ∧ S b ∧ S bs ∧ S bp ∧ S bl
theorem IsFn.keep {w w' : World} {b s : Nat} {ps : List Nat} {S : Nat → Prop} (h : IsFn w b s ps S) (hk : ∀ k, S k → w'.heap[k]? = w.heap[k]?) : IsFn w' b s ps S := by
  obtain ⟨v, bs, bp, bl, h1, h2, h3, h4, h5, h6⟩ := h
  exact ⟨v, bs, bp, bl, (hk b h3).trans h1, h2.keep (hk bs h4) (hk bp h5) (hk bl h6), h3, h4, h5, h6⟩
theorem IsFn.sub {w : World} {b s : Nat} {ps : List Nat} {S S' : Nat → Prop} (h : IsFn w b s ps S) (hk : ∀ k, S k → k < w.heap.size → S' k) : IsFn w b s ps S' := by
  obtain ⟨v, bs, bp, bl, h1, h2, h3, h4, h5, h6⟩ := h
  exact ⟨v, bs, bp, bl, h1, h2, hk b h3 h1.lt, hk bs h4 h2.sh.lt, hk bp h5 h2.pl.lt, hk bl h6 h2.li.lt⟩
/-- What makes the words: the blocks that its function holds. -/
structure AllFn (w : World) (bm bq bn bf : Nat) (S : Nat → Prop) : Prop where
  sq : S bq
  q : Row w bq 149 #[.pointer (some ⟨bm, 0, none⟩)]
  n : IsFn w bn 3 [7, 18] S
  f : IsFn w bf 10 [17, 19] S
theorem AllFn.keep {w w' : World} {bm bq bn bf : Nat} {S : Nat → Prop} (h : AllFn w bm bq bn bf S) (hk : ∀ k, S k → w'.heap[k]? = w.heap[k]?) : AllFn w' bm bq bn bf S :=
  ⟨h.sq, (hk _ h.sq).trans h.q, h.n.keep hk, h.f.keep hk⟩
theorem Row.newAt {W : World} {g : Nat} {t : TypeId} {cs : Array Value} (h : W.heap.size = g) : Row (W.alloc (.cells cs t)) g t cs := by subst h; exact Row.new W t cs
theorem all_any (bm : Nat) (w : World) : Calls Tryd.prog 92 #[.pointer (some ⟨bm, 0, none⟩)] w fun e w' => ∃ bq bn bf, e = .returned (.func (.func 95) #[] #[.pointer (some ⟨bq, 0, none⟩), .pointer (some ⟨bn, 0, none⟩), .pointer (some ⟨bf, 0, none⟩)]) ∧ AllFn w' bm bq bn bf (fun k => w.heap.size ≤ k) ∧ Below w.heap.size w w' := by
  go_enter Tryd.func92, Tryd.ntmps92
  go_wp2_with (first | (go_at_call 91; refine (rotations_any _ _ _ _).mono ?_; rintro e w' ⟨rfl, rfl⟩))
  go_ret
  refine ⟨w.heap.size, _, _, rfl, ⟨Nat.le_refl _, ?_, ⟨_, w.heap.size + 1 + 1, w.heap.size + 1 + 1 + 1, w.heap.size + 1, ?_, ⟨rfl, ?_, ?_, ?_⟩, ?_, ?_, ?_, ?_⟩, ⟨_, w.heap.size + 1 + 1 + 1 + 1 + 1, w.heap.size + 1 + 1 + 1 + 1 + 1 + 1, w.heap.size + 1 + 1 + 1 + 1, ?_, ⟨rfl, ?_, ?_, ?_⟩, ?_, ?_, ?_, ?_⟩⟩, ?_⟩
  all_goals first
    | omega
    | ((repeat (first | exact Row.newAt (by simp only [World.size_alloc]) | refine Row.alloc ?_ _)); done)
    | (repeat (first | exact Below.refl _ _ | refine Below.alloc ?_ (by first | exact Nat.le_refl _ | (simp only [World.size_alloc]; omega)) _))
end Go.Proofs.YthabgfghogdkcaaDoor
namespace Go.Proofs.YthabgfghogdkcaaDoor
open Go.RowKit Go.Shelf
attribute [local go_sem] Oper.semAt_some
theorem rots_s0 (x : BitVec 32) : rots x 3 [7, 18] = Sha.s0 x := by
  simp only [rots, List.foldl_cons, List.foldl_nil, Sha.s0]
  rw [BitVec.xor_comm (x >>> 3), BitVec.xor_assoc, BitVec.xor_comm (x >>> 3), ← BitVec.xor_assoc]
theorem rots_s1 (x : BitVec 32) : rots x 10 [17, 19] = Sha.s1 x := by
  simp only [rots, List.foldl_cons, List.foldl_nil, Sha.s1]
  rw [BitVec.xor_comm (x >>> 10), BitVec.xor_assoc, BitVec.xor_comm (x >>> 10), ← BitVec.xor_assoc]
theorem shr32 (x : BitVec 32) : x >>> 32 = 0#32 := by
  apply BitVec.eq_of_toNat_eq
  rw [BitVec.toNat_ushiftRight, Nat.shiftRight_eq_div_pow, Nat.div_eq_of_lt x.isLt]
  rfl
theorem rots_S0 (x : BitVec 32) : rots x 32 [2, 13, 22] = Sha.S0 x := by
  simp [rots, Sha.S0, shr32]
theorem rots_S1 (x : BitVec 32) : rots x 32 [6, 11, 25] = Sha.S1 x := by
  simp [rots, Sha.S1, shr32]
def ringC (m : Nat → BitVec 32) (t : Nat) : Array Value := ((List.range 16).map fun j => wordV (Sha.ringAt m t j)).toArray
theorem ringC_get (m : Nat → BitVec 32) (t j : Nat) (h : j < 16) : (ringC m t)[j]? = some (.int .u32 ((Sha.ringAt m t j).toNat : Int)) := by simp [ringC, h]
theorem ringC_set (m : Nat → BitVec 32) (t : Nat) (h : 16 ≤ t) : (ringC m t).setIfInBounds (t % 16) (wordV (Sha.M m t)) = ringC m (t + 1) := by
  apply Array.ext_getElem?
  intro i
  rw [Array.getElem?_setIfInBounds]
  by_cases hi : i < 16
  · rw [ringC_get m (t + 1) i hi]
    by_cases e : t % 16 = i
    · subst e; rw [if_pos rfl, if_pos (by simp [ringC]; omega), Sha.ringAt_new m t h]
    · rw [if_neg e, ringC_get m t i hi, Sha.ringAt_old m t i hi (.inl (fun x => e x.symm))]
  · rw [if_neg (by omega)]
    simp [ringC, hi]
theorem ringC_low (m : Nat → BitVec 32) (t : Nat) (h : t < 16) : ringC m (t + 1) = ringC m t := by
  unfold ringC
  congr 2
  funext j
  simp only [Sha.ringAt, show max (t + 1) 16 = 16 from by omega, show max t 16 = 16 from by omega]
theorem IsFn.later {w w' : World} {b s : Nat} {ps : List Nat} {S : Nat → Prop} (h : IsFn w b s ps S) (hL : Later w w') : IsFn w' b s ps S := by
  obtain ⟨v, bs, bp, bl, h1, h2, h3⟩ := h
  exact ⟨v, bs, bp, bl, h1.later hL, h2.later hL, h3⟩
theorem AllFn.later {w w' : World} {bm bq bn bf : Nat} {S : Nat → Prop} (h : AllFn w bm bq bn bf S) (hL : Later w w') : AllFn w' bm bq bn bf S := ⟨h.sq, h.q.later hL, h.n.later hL, h.f.later hL⟩
def Keeps (S : Nat → Prop) (bm : Nat) (X Y : World) : Prop := (∀ k, S k → Y.heap[k]? = X.heap[k]?) ∧ Y.heap[bm]? = X.heap[bm]?
def wordEnc (m : Nat → BitVec 32) (t : Nat) : Array Value := #[.int .i64 (t : Int), .int .u32 ((Sha.M m t).toNat : Int)]
theorem loadQ {b o : Nat} {v : Option Addr} {W : World} (hc : W.cell? ⟨b, o, none⟩ = some (.pointer v)) : (Instr.loadAt 149 (.pointer (some ⟨b, o, none⟩))).run Tryd.prog W = .ok (.pointer v) W := by
  go_simp
theorem loadF {b o : Nat} {f : Fn} {x y : Array Value} {W : World} (hc : W.cell? ⟨b, o, none⟩ = some (.func f x y)) : (Instr.loadAt 141 (.pointer (some ⟨b, o, none⟩))).run Tryd.prog W = .ok (.func f x y) W := by
  go_simp
theorem idxR {b j : Nat} {W : World} (h : j < 16) : (Instr.indexAt 139 (.pointer (some ⟨b, 0, none⟩)) (.int .i64 (j : Int))).run Tryd.prog W = .ok (.pointer (some ⟨b, j, none⟩)) W := by
  have h1 : (j : Int) < 16 := by omega
  have h2 : (0 : Int) ≤ (j : Int) := by omega
  go_simp
theorem idxM {b j : Nat} {i : Int} {W : World} (hi : i = (j : Int)) (h : j < 16) : (Instr.indexAt 139 (.pointer (some ⟨b, 0, none⟩)) (.int .i64 i)).run Tryd.prog W = .ok (.pointer (some ⟨b, j, none⟩)) W := by
  rw [hi]; exact idxR h
theorem rot_s0 (x : BitVec 32) {v : Value} {bs bp bl : Nat} (w : World) (h : IsRot w v 3 [7, 18] bs bp bl) : Calls Tryd.prog 94 #[wordV x, .pointer (some ⟨bs, 0, none⟩), .pointer (some ⟨bp, 0, none⟩)] w fun e w' => e = .returned (wordV (Sha.s0 x)) ∧ w = w' := by
  rw [← rots_s0]; exact rots_any x v 3 [7, 18] bs bp bl w (by decide) (by decide) (by decide) h
theorem rot_s1 (x : BitVec 32) {v : Value} {bs bp bl : Nat} (w : World) (h : IsRot w v 10 [17, 19] bs bp bl) : Calls Tryd.prog 94 #[wordV x, .pointer (some ⟨bs, 0, none⟩), .pointer (some ⟨bp, 0, none⟩)] w fun e w' => e = .returned (wordV (Sha.s1 x)) ∧ w = w' := by
  rw [← rots_s1]; exact rots_any x v 10 [17, 19] bs bp bl w (by decide) (by decide) (by decide) h
theorem rot_S0 (x : BitVec 32) {v : Value} {bs bp bl : Nat} (w : World) (h : IsRot w v 32 [2, 13, 22] bs bp bl) : Calls Tryd.prog 94 #[wordV x, .pointer (some ⟨bs, 0, none⟩), .pointer (some ⟨bp, 0, none⟩)] w fun e w' => e = .returned (wordV (Sha.S0 x)) ∧ w = w' := by
  rw [← rots_S0]; exact rots_any x v 32 [2, 13, 22] bs bp bl w (by decide) (by decide) (by decide) h
theorem rot_S1 (x : BitVec 32) {v : Value} {bs bp bl : Nat} (w : World) (h : IsRot w v 32 [6, 11, 25] bs bp bl) : Calls Tryd.prog 94 #[wordV x, .pointer (some ⟨bs, 0, none⟩), .pointer (some ⟨bp, 0, none⟩)] w fun e w' => e = .returned (wordV (Sha.S1 x)) ∧ w = w' := by
  rw [← rots_S1]; exact rots_any x v 32 [6, 11, 25] bs bp bl w (by decide) (by decide) (by decide) h
theorem remN {x y j : Nat} {W : World} (h0 : 0 < y) (hx : x < 9223372036854775808) (hy : y < 9223372036854775808) (hj : x % y = j) : (binOp .rem 3 (.int .i64 (x : Int)) (.int .i64 (y : Int))).run Tryd.prog W = .ok (.int .i64 (j : Int)) W := by
  subst hj; exact remI h0 hx hy
set_option maxRecDepth 100000 in
set_option maxHeartbeats 4000000 in
theorem all1_seq (m : Nat → BitVec 32) (bm bq bn bf : Nat) (S : Nat → Prop) (hS : ¬ S bm) (w : World) (n1 : Nat) (hn1 : 1 ≤ n1) (hrow : Row w bm 139 (ringC m 0)) (hall : AllFn w bm bq bn bf S) :
    SeqC Fence.wide n1 Tryd.prog 95 #[.pointer (some ⟨bq, 0, none⟩), .pointer (some ⟨bn, 0, none⟩), .pointer (some ⟨bf, 0, none⟩)] (wordEnc m) (Keeps S bm) (fun xs => xs.length = 64) (fun _ => True) (fun pre t => t = pre.length ∧ t < 64) (fun r => r = bm) w := fun l J Jx W hW hJ hJx hY h0 => by
  have hrw : Row W bm 139 (ringC m 0) := hrow.belowAll hW
  have hal := hall.later hW
  have HY := Lib.hid hY
  have HJ := Lib.hid hJ
  clear hY hJ hJx hrow hW hall
  refine callsIn_of_wp Tryd.func95 rfl trivial ?_ rfl
  simp only [Tryd.ntmps95, List.size_toArray, List.length_cons, List.length_nil, Nat.reduceAdd, Nat.reduceSub, Array.replicate_succ, Array.replicate_zero, List.push_toArray, List.append_toArray, List.nil_append, List.cons_append]
  gi_wp2
  refine wpIn_scope_wide ?_
  gi_wp2
  refine wpIn_label ?_
  gi_wp2
  gi_loopw [7] (fun v wr => ∃ (pre : List Nat), v = .int .i64 (pre.length : Int) ∧ pre.length ≤ 64 ∧ Row wr bm 139 (ringC m pre.length) ∧ AllFn wr bm bq bn bf S ∧ J pre wr) (fun v _ => 64 - (intOf v).toNat)
  case atStart => exact ⟨[], rfl, by simp, hrw, hal, h0⟩
  case round =>
    obtain ⟨pre, rfl, hle, hr, ha, hJs⟩ := hrel
    clear hrw hal h0
    obtain ⟨t, ht⟩ : ∃ t, pre.length = t := ⟨_, rfl⟩
    rw [ht] at hle hr
    have HT := Lib.hid ht
    have hpl : ((pre.length : Nat) : Int) = (t : Int) := by rw [ht]
    rw [hpl]
    clear hpl ht
    obtain ⟨hsq, hq, hn, hf⟩ := ha
    have hcq : wr.cell? ⟨bq, 0, none⟩ = some (.pointer (some ⟨bm, 0, none⟩)) := (hq.cell 0).trans rfl
    by_cases hlt : t < 64
    · obtain ⟨j0, hj0⟩ : ∃ j0, t % 16 = j0 := ⟨_, rfl⟩
      have hj0' : (t : Int) % 16 = (j0 : Int) := by omega
      have hj0l : j0 < 16 := by omega
      by_cases hge : 16 ≤ t
      · have hd : decide ((16 : Int) ≤ (t : Int)) = true := by simp; omega
        obtain ⟨j1, hj1⟩ : ∃ j1, (t + 1) % 16 = j1 := ⟨_, rfl⟩
        obtain ⟨j2, hj2⟩ : ∃ j2, (t + 9) % 16 = j2 := ⟨_, rfl⟩
        obtain ⟨j3, hj3⟩ : ∃ j3, (t + 14) % 16 = j3 := ⟨_, rfl⟩
        have g0 := Sha.ringAt_read m t 0 hge (by decide)
        have g1 := Sha.ringAt_read m t 1 hge (by decide)
        have g2 := Sha.ringAt_read m t 9 hge (by decide)
        have g3 := Sha.ringAt_read m t 14 hge (by decide)
        rw [Nat.add_zero, hj0] at g0
        rw [hj1, show t - 16 + 1 = t - 15 from by omega] at g1
        rw [hj2, show t - 16 + 9 = t - 7 from by omega] at g2
        rw [hj3, show t - 16 + 14 = t - 2 from by omega] at g3
        have hc0 := (hr.cell j0).trans (ringC_get m t j0 hj0l)
        have hc1 := (hr.cell j1).trans (ringC_get m t j1 (by omega))
        have hc2 := (hr.cell j2).trans (ringC_get m t j2 (by omega))
        have hc3 := (hr.cell j3).trans (ringC_get m t j3 (by omega))
        rw [g0] at hc0
        rw [g1] at hc1
        rw [g2] at hc2
        rw [g3] at hc3
        have hsum := Sha.ring_sum m t hge
        rw [Nat.add_zero] at hc0
        have hset := ringC_set m t hge
        rw [hj0] at hset
        have hj1l : j1 < 16 := by omega
        have hj2l : j2 < 16 := by omega
        have hj3l : j3 < 16 := by omega
        clear g0 g1 g2 g3
        obtain ⟨x0, hx0⟩ : ∃ x, Sha.M m (t - 16) = x := ⟨_, rfl⟩
        obtain ⟨x1, hx1⟩ : ∃ x, Sha.M m (t - 15) = x := ⟨_, rfl⟩
        obtain ⟨x2, hx2⟩ : ∃ x, Sha.M m (t - 7) = x := ⟨_, rfl⟩
        obtain ⟨x3, hx3⟩ : ∃ x, Sha.M m (t - 2) = x := ⟨_, rfl⟩
        rw [hx0] at hc0 hsum
        rw [hx1] at hc1 hsum
        rw [hx2] at hc2 hsum
        rw [hx3] at hc3 hsum
        have HSUM := Lib.hid hsum
        have HSET := Lib.hid hset
        have hff := hf
        have hnn := hn
        obtain ⟨nv, ns, np, nl, hnr, hrn, hnS⟩ := hn
        obtain ⟨fv, fs, fp, fl, hfr, hrf, hfS⟩ := hf
        have hcn := (hnr.cell 0).trans (rfl : _ = some nv)
        have hcf := (hfr.cell 0).trans (rfl : _ = some fv)
        rw [hrn.val] at hcn
        rw [hrf.val] at hcf
        clear hx0 hx1 hx2 hx3 hsum hset hnS hfS hnr hfr
        have HJ0 := Lib.hid hj0
        have HJ1 := Lib.hid hj1
        have HJ2 := Lib.hid hj2
        have HJ3 := Lib.hid hj3
        clear hj0 hj1 hj2 hj3
        gi_wp2
        refine wpIn_region_last wide_wide [Pr.eq (.pointer (some ⟨bm, 0, none⟩)), Pr.eq (.int .i64 ((t : Int) % 16)), Pr.eq (.pointer (some ⟨bm, 0, none⟩)), Pr.eq (.pointer (some ⟨bm, j0, none⟩)), Pr.eq (.int .u32 ((x0).toNat : Int)), Pr.eq (.func (.func 94) #[] #[.pointer (some ⟨ns, 0, none⟩), .pointer (some ⟨np, 0, none⟩)]), Pr.eq (.pointer (some ⟨bm, 0, none⟩)), Pr.eq (.int .i64 (t : Int)), Pr.eq (.int .i64 ((t + 1 : Nat) : Int)), Pr.eq (.int .i64 (j1 : Int)), Pr.eq (.pointer (some ⟨bm, 0, none⟩)), Pr.eq (.pointer (some ⟨bm, j1, none⟩)), Pr.eq (.int .u32 ((x1).toNat : Int)), Pr.eq (.int .u32 ((Sha.s0 x1).toNat : Int)), Pr.eq (.pointer (some ⟨bm, 0, none⟩)), Pr.eq (.int .i64 (t : Int)), Pr.eq (.int .i64 ((t + 9 : Nat) : Int)), Pr.eq (.int .i64 (j2 : Int)), Pr.eq (.pointer (some ⟨bm, 0, none⟩)), Pr.eq (.pointer (some ⟨bm, j2, none⟩)), Pr.eq (.int .u32 ((x2).toNat : Int)), Pr.eq (.int .u32 ((Sha.s0 x1 + x2).toNat : Int)), Pr.eq (.func (.func 94) #[] #[.pointer (some ⟨fs, 0, none⟩), .pointer (some ⟨fp, 0, none⟩)]), Pr.eq (.pointer (some ⟨bm, 0, none⟩)), Pr.eq (.int .i64 (t : Int)), Pr.eq (.int .i64 ((t + 14 : Nat) : Int)), Pr.eq (.int .i64 (j3 : Int)), Pr.eq (.pointer (some ⟨bm, 0, none⟩)), Pr.eq (.pointer (some ⟨bm, j3, none⟩)), Pr.eq (.int .u32 ((x3).toNat : Int)), Pr.eq (.int .u32 ((Sha.s1 x3).toNat : Int)), Pr.eq (.int .u32 ((Sha.s0 x1 + x2 + Sha.s1 x3).toNat : Int)), Pr.eq (.int .u32 ((x0 + (Sha.s0 x1 + x2 + Sha.s1 x3)).toNat : Int)), Pr.eq (.pointer (some ⟨bm, 0, none⟩)), Pr.eq (.pointer (some ⟨bm, j0, none⟩))] (by kernel_rfl) (by kernel_rfl) (by kernel_rfl) (by kernel_rfl) (by kernel_rfl) (by kernel_rfl) rfl ⟨?_, ?_, ?_, ?_, ?_, ?_, ?_, ?_, ?_, ?_, ?_, ?_, ?_, ?_, ?_, ?_, ?_, ?_, ?_, ?_, ?_, ?_, ?_, ?_, ?_, ?_, ?_, ?_, ?_, ?_, ?_, ?_, ?_, ?_, ?_, trivial⟩ ?_
        · exact fun ac W hL he => stepOk_want rfl (op_load rfl (he.keep (.tmp 1) (by kernel_rfl)) (loadQ (hL.cell hcq)) rfl)
        · exact fun ac W hL he => stepOk_want rfl (op_move rfl (he.keep (.tmp 6) (by kernel_rfl)))
        · exact fun ac W hL he => stepOk_want rfl (op_nil rfl (he.get 0 14 (by kernel_rfl) rfl) rfl)
        · exact fun ac W hL he => stepOk_want rfl (op_idx rfl (he.get 2 16 (by kernel_rfl) rfl) (he.get 1 15 (by kernel_rfl) rfl) (idxM hj0' hj0l) rfl)
        · exact fun ac W hL he => stepOk_want rfl (op_load rfl (he.get 3 17 (by kernel_rfl) rfl) (load32 (hL.cell hc0)) rfl)
        · exact fun ac W hL he => stepOk_want rfl (op_load rfl (he.keep (.tmp 2) (by kernel_rfl)) (loadF (hL.cell hcn)) rfl)
        · exact fun ac W hL he => stepOk_want rfl (op_load rfl (he.keep (.tmp 1) (by kernel_rfl)) (loadQ (hL.cell hcq)) rfl)
        · exact fun ac W hL he => stepOk_want rfl (op_move rfl (he.keep (.tmp 5) (by kernel_rfl)))
        · exact fun ac W hL he => stepOk_want rfl (op_binOp rfl (he.get 7 21 (by kernel_rfl) rfl) rfl eqg_add (addI (y := 1) (by omega) (by omega)) rfl)
        · exact fun ac W hL he => stepOk_want rfl (op_binOp rfl (he.get 8 22 (by kernel_rfl) rfl) rfl eqg_rem (remN (y := 16) (by decide) (by omega) (by decide) HJ1.out) rfl)
        · exact fun ac W hL he => stepOk_want rfl (op_nil rfl (he.get 6 20 (by kernel_rfl) rfl) rfl)
        · exact fun ac W hL he => stepOk_want rfl (op_idx rfl (he.get 10 24 (by kernel_rfl) rfl) (he.get 9 23 (by kernel_rfl) rfl) (idxR hj1l) rfl)
        · exact fun ac W hL he => stepOk_want rfl (op_load rfl (he.get 11 25 (by kernel_rfl) rfl) (load32 (hL.cell hc1)) rfl)
        · intro ac W hL he; refine stepOk_want rfl ?_; have e0 : ac.eval (.tmp 19) = (.func (.func 94) #[] #[.pointer (some ⟨ns, 0, none⟩), .pointer (some ⟨np, 0, none⟩)]) := (he.get 5 19 (by kernel_rfl) rfl); have e1 : ac.eval (.tmp 26) = (.int .u32 ((x1).toNat : Int)) := (he.get 12 26 (by kernel_rfl) rfl); exact op_callV rfl e0 (by simp only [List.map_toArray, List.map_cons, List.map_nil, e1]; rfl) (enters_of Tryd.func94 (by kernel_rfl) rfl) (by rfl) ((rot_s0 x1 W (hrn.later hL)).mono fun e W' ⟨he', hb⟩ => ⟨_, he', hb ▸ Later.refl _, rfl⟩)
        · exact fun ac W hL he => stepOk_want rfl (op_load rfl (he.keep (.tmp 1) (by kernel_rfl)) (loadQ (hL.cell hcq)) rfl)
        · exact fun ac W hL he => stepOk_want rfl (op_move rfl (he.keep (.tmp 5) (by kernel_rfl)))
        · exact fun ac W hL he => stepOk_want rfl (op_binOp rfl (he.get 15 29 (by kernel_rfl) rfl) rfl eqg_add (addI (y := 9) (by omega) (by omega)) rfl)
        · exact fun ac W hL he => stepOk_want rfl (op_binOp rfl (he.get 16 30 (by kernel_rfl) rfl) rfl eqg_rem (remN (y := 16) (by decide) (by omega) (by decide) HJ2.out) rfl)
        · exact fun ac W hL he => stepOk_want rfl (op_nil rfl (he.get 14 28 (by kernel_rfl) rfl) rfl)
        · exact fun ac W hL he => stepOk_want rfl (op_idx rfl (he.get 18 32 (by kernel_rfl) rfl) (he.get 17 31 (by kernel_rfl) rfl) (idxR hj2l) rfl)
        · exact fun ac W hL he => stepOk_want rfl (op_load rfl (he.get 19 33 (by kernel_rfl) rfl) (load32 (hL.cell hc2)) rfl)
        · exact fun ac W hL he => stepOk_want rfl (op_binOp rfl (he.get 13 27 (by kernel_rfl) rfl) (he.get 20 34 (by kernel_rfl) rfl) eqg_add add32 rfl)
        · exact fun ac W hL he => stepOk_want rfl (op_load rfl (he.keep (.tmp 3) (by kernel_rfl)) (loadF (hL.cell hcf)) rfl)
        · exact fun ac W hL he => stepOk_want rfl (op_load rfl (he.keep (.tmp 1) (by kernel_rfl)) (loadQ (hL.cell hcq)) rfl)
        · exact fun ac W hL he => stepOk_want rfl (op_move rfl (he.keep (.tmp 5) (by kernel_rfl)))
        · exact fun ac W hL he => stepOk_want rfl (op_binOp rfl (he.get 24 38 (by kernel_rfl) rfl) rfl eqg_add (addI (y := 14) (by omega) (by omega)) rfl)
        · exact fun ac W hL he => stepOk_want rfl (op_binOp rfl (he.get 25 39 (by kernel_rfl) rfl) rfl eqg_rem (remN (y := 16) (by decide) (by omega) (by decide) HJ3.out) rfl)
        · exact fun ac W hL he => stepOk_want rfl (op_nil rfl (he.get 23 37 (by kernel_rfl) rfl) rfl)
        · exact fun ac W hL he => stepOk_want rfl (op_idx rfl (he.get 27 41 (by kernel_rfl) rfl) (he.get 26 40 (by kernel_rfl) rfl) (idxR hj3l) rfl)
        · exact fun ac W hL he => stepOk_want rfl (op_load rfl (he.get 28 42 (by kernel_rfl) rfl) (load32 (hL.cell hc3)) rfl)
        · intro ac W hL he; refine stepOk_want rfl ?_; have e0 : ac.eval (.tmp 36) = (.func (.func 94) #[] #[.pointer (some ⟨fs, 0, none⟩), .pointer (some ⟨fp, 0, none⟩)]) := (he.get 22 36 (by kernel_rfl) rfl); have e1 : ac.eval (.tmp 43) = (.int .u32 ((x3).toNat : Int)) := (he.get 29 43 (by kernel_rfl) rfl); exact op_callV rfl e0 (by simp only [List.map_toArray, List.map_cons, List.map_nil, e1]; rfl) (enters_of Tryd.func94 (by kernel_rfl) rfl) (by rfl) ((rot_s1 x3 W (hrf.later hL)).mono fun e W' ⟨he', hb⟩ => ⟨_, he', hb ▸ Later.refl _, rfl⟩)
        · exact fun ac W hL he => stepOk_want rfl (op_binOp rfl (he.get 21 35 (by kernel_rfl) rfl) (he.get 30 44 (by kernel_rfl) rfl) eqg_add add32 rfl)
        · exact fun ac W hL he => stepOk_want rfl (op_binOp rfl (he.get 4 18 (by kernel_rfl) rfl) (he.get 31 45 (by kernel_rfl) rfl) eqg_add add32 rfl)
        · exact fun ac W hL he => stepOk_want rfl (op_nil rfl (he.get 0 14 (by kernel_rfl) rfl) rfl)
        · exact fun ac W hL he => stepOk_want rfl (op_idx rfl (he.get 33 47 (by kernel_rfl) rfl) (he.get 1 15 (by kernel_rfl) rfl) (idxM hj0' hj0l) rfl)
        · intro xs W2 hL hx hk hg
          have e1 := hg 34 48 (by decide) (by kernel_rfl)
          have e2 := hg 32 46 (by decide) (by kernel_rfl)
          have v1 : xs 34 = .pointer (some ⟨bm, j0, none⟩) := hx 34 (by decide)
          have v2 : xs 32 = wordV (x0 + (Sha.s0 x1 + x2 + Sha.s1 x3)) := hx 32 (by decide)
          rw [v1] at e1
          rw [v2, HSUM.out] at e2
          have hr2 := hr.later hL
          refine last_store rfl rfl e1 e2 (store32 (hr2.cell j0 |>.trans (ringC_get m t j0 hj0l)) (hr2.frozen j0)) ?_
          have hr3 := hr2.set j0 (wordV (Sha.M m t))
          rw [HSET.out] at hr3
          have hJ3 := HJ.out _ _ _ _ (HJ.out _ _ _ _ hJs (grown_of_below hL) (fun r e => by cases e)) (grown_set W2 bm j0 (wordV (Sha.M m t))) (fun r e => by cases e; rfl)
          have hk3 : ∀ k, S k → (W2.setCell ⟨bm, j0, none⟩ (wordV (Sha.M m t))).heap[k]? = W2.heap[k]? := fun k hk => heap_setCell_other W2 _ _ _ (fun e => hS (by have e' : k = bm := e; rw [← e']; exact hk))
          have ha3 : AllFn (W2.setCell ⟨bm, j0, none⟩ (wordV (Sha.M m t))) bm bq bn bf S := AllFn.keep ⟨hsq, hq.later hL, hnn.later hL, hff.later hL⟩ hk3
          have hnew := (hr3.cell j0).trans (ringC_get m (t + 1) j0 hj0l)
          rw [show Sha.ringAt m (t + 1) j0 = Sha.M m t from by rw [← HJ0.out]; exact Sha.ringAt_new m t hge] at hnew
          clear hx hk hg e1 e2 v1 v2 hc0 hc1 hc2 hc3 hcn hcf hff hnn hrn hrf hr2 hk3
          generalize W2.setCell ⟨bm, j0, none⟩ (wordV (Sha.M m t)) = W3 at *
          simp only [initL, putL, Nat.reduceAdd, Act.put, List.setIfInBounds_toArray, List.set_cons_succ, List.set_cons_zero]
          have hcq3 : W3.cell? ⟨bq, 0, none⟩ = some (.pointer (some ⟨bm, 0, none⟩)) := (ha3.q.cell 0).trans rfl
          clear hcq
          obtain ⟨fn, tmps, assign, body, hy, hR⟩ := HY.out pre t W3 hJ3 ⟨HT.out.symm, hlt⟩
          unfold wordEnc at hy
          gi_wp2
          refine hR.mono ?_
          rintro e W5 (⟨rfl, hJ5, hk5⟩ | ⟨rfl, hJx5⟩)
          · have hr5 := hk5.2.trans hr3
            have ha5 := AllFn.keep ha3 hk5.1
            have hln : (pre ++ [t]).length = t + 1 := by rw [List.length_append, HT.out]; rfl
            have HLN := Lib.hid hln
            clear hln hk5
            gi_wp2
            go_roundw
            case rel => exact ⟨pre ++ [t], by rw [HLN.out]; go_num, by rw [HLN.out]; omega, by rw [HLN.out]; exact hr5, ha5, hJ5⟩
            case measure => simp [intOf]; omega
          · gi_wp2
            rw [Exit.noGoto_normal]
            go_end0
            exact ⟨⟨_, rfl⟩, .inr ⟨_, trivial, hJx5⟩⟩
      · have hd : decide ((16 : Int) ≤ (t : Int)) = false := by simp; omega
        have hnew := (hr.cell j0).trans (ringC_get m t j0 hj0l)
        rw [Sha.ringAt_low m t j0 (by omega) hj0l, show j0 = t from by omega, ← Sha.M_lt m (by omega : t < 16), show t = j0 from by omega] at hnew
        rw [show Sha.M m j0 = Sha.M m t from by rw [show j0 = t from by omega]] at hnew
        have hrn := ringC_low m t (by omega)
        rw [← hrn] at hr
        have ha0 : AllFn wr bm bq bn bf S := ⟨hsq, hq, hn, hf⟩
        clear hj0 hrn
        obtain ⟨fn, tmps, assign, body, hy, hR⟩ := HY.out pre t wr hJs ⟨HT.out.symm, hlt⟩
        unfold wordEnc at hy
        gi_wp2
        refine hR.mono ?_
        rintro e W5 (⟨rfl, hJ5, hk5⟩ | ⟨rfl, hJx5⟩)
        · have hr5 := hk5.2.trans hr
          have ha5 := AllFn.keep ha0 hk5.1
          have hln : (pre ++ [t]).length = t + 1 := by rw [List.length_append, HT.out]; rfl
          have HLN := Lib.hid hln
          clear hln hk5
          gi_wp2
          go_roundw
          case rel => exact ⟨pre ++ [t], by rw [HLN.out]; go_num, by rw [HLN.out]; omega, by rw [HLN.out]; exact hr5, ha5, hJ5⟩
          case measure => simp [intOf]; omega
        · gi_wp2
          rw [Exit.noGoto_normal]
          go_end0
          exact ⟨⟨_, rfl⟩, .inr ⟨_, trivial, hJx5⟩⟩
    · obtain rfl : t = 64 := by omega
      gi_wp2
      rw [Exit.noGoto_normal]
      go_end0
      exact ⟨⟨_, rfl⟩, .inl ⟨pre, HT.out, hJs⟩⟩
end Go.Proofs.YthabgfghogdkcaaDoor
namespace Go.Proofs.YthabgfghogdkcaaDoor
open Go.RowKit Go.Shelf
attribute [local go_sem] Oper.semAt_some
theorem name_frame {P : Program} {c : Code} {Q : Exit → Act → World → Prop} {tm : Array Value} {d : List Deferred} {w : World} (h : ∀ T, T = tm → c.wp P Q { tmps := T, defers := d } w) : c.wp P Q { tmps := tm, defers := d } w := h tm rfl
def z16 : Array Value := Array.replicate 16 (.int .u32 0)
theorem alloc16 (w : World) : (Instr.alloc 139 true (.tuple #[])).run Tryd.prog w = .ok (.pointer (some ⟨w.heap.size, 0, none⟩)) (w.alloc (.cells z16 139)) := by kernel_rfl
def ringTo (l : List UInt8) (k : Nat) : Array Value := ((List.range 16).map fun j => if j < k then wordV (Sha.wd l j) else .int .u32 0).toArray
theorem ringTo_zero (l : List UInt8) : ringTo l 0 = z16 := by simp [ringTo, z16]; rfl
theorem ringTo_set (l : List UInt8) (k : Nat) (h : k < 16) : (ringTo l k).setIfInBounds k (wordV (Sha.wd l k)) = ringTo l (k + 1) := by
  apply Array.ext_getElem?
  intro i
  rw [Array.getElem?_setIfInBounds]
  by_cases hi : i < 16
  · by_cases e : k = i
    · subst e; rw [if_pos rfl, if_pos (by simp [ringTo]; omega)]; simp [ringTo, h]
    · rw [if_neg e]
      simp only [ringTo, List.getElem?_toArray, List.getElem?_map, List.getElem?_range hi, Option.map_some]
      by_cases h3 : i < k
      · rw [if_pos h3, if_pos (by omega)]
      · rw [if_neg h3, if_neg (by omega)]
  · rw [if_neg (by omega)]
    simp [ringTo, hi]
theorem ringTo_all (l : List UInt8) : ringTo l 16 = ringC (Sha.wd l) 0 := by
  unfold ringTo ringC
  apply congrArg List.toArray
  apply List.map_congr_left
  intro j hj
  have := List.mem_range.1 hj
  rw [if_pos this, Sha.ringAt_low _ _ _ (by omega) this]
theorem Rd.cut {w : World} {b o k n : Nat} {l : List UInt8} (h : Rd w (some ⟨b, o, none⟩) l) (hk : k + n ≤ l.length) : Rd w (some ⟨b, o + k, none⟩) ((l.drop k).take n) := fun hne => by
  have h0 : l ≠ [] := by intro e; subst e; simp at hne
  obtain ⟨b', o', e, hc⟩ := h h0
  injection e with e
  injection e with e1 e2
  subst e1 e2
  refine ⟨b, o + k, rfl, fun i hi => ?_⟩
  rw [List.length_take, List.length_drop] at hi
  rw [List.getElem_take, List.getElem_drop, Nat.add_assoc]
  exact hc (k + i) (by omega)
/-- The state that turns: at the turn t the variable i lies at the place i - t. -/
def stC (x : Sha.St) (t : Nat) : Array Value := ((List.range 8).map fun j => wordV (x.get ((j + t) % 8))).toArray
theorem stC_get (x : Sha.St) (t j : Nat) (h : j < 8) : (stC x t)[j]? = some (.int .u32 ((x.get ((j + t) % 8)).toNat : Int)) := by simp [stC, h]
def z8 : Array Value := Array.replicate 8 (.int .u32 0)
theorem alloc8 (w : World) : (Instr.alloc 90 true (.tuple #[])).run Tryd.prog w = .ok (.pointer (some ⟨w.heap.size, 0, none⟩)) (w.alloc (.cells z8 90)) := by kernel_rfl
theorem info8 : (Tryd.prog.info? 90).map (·.size) = some 8 := by kernel_rfl
theorem stC_zero (x : Sha.St) : (x.list.map wordV).toArray = stC x 0 := rfl
theorem stC_size (x : Sha.St) (t : Nat) : (stC x t).size = 8 := by simp [stC]
theorem stC_one (x : Sha.St) (t : Nat) : (stC x t).all (·.oneCell') = true := by
  rw [Array.all_eq_true_iff_forall_mem]
  intro v hv
  unfold stC at hv
  rw [List.mem_toArray] at hv
  obtain ⟨i, hi, rfl⟩ := List.mem_map.1 hv
  rfl
theorem storeS (x : Sha.St) (w : World) : (Instr.storeAt 90 (.pointer (some ⟨w.heap.size, 0, none⟩)) (.agg (stC x 0))).run Tryd.prog (w.alloc (.cells z8 90)) = .ok () (w.alloc (.cells (stC x 0) 90)) :=
  run_storeAt_new w 90 z8 (stC x 0) (by rw [stC_size]; exact info8) (by rw [stC_size]; simp [z8]) (stC_one x 0)
theorem loadS {w : World} {g o : Nat} {T : TypeId} {cs : Array Value} {x : Sha.St} (hrow : Row w g T cs) (hx : ∀ i, i < 8 → cs[o + i]? = some (wordV (x.get i))) : (Instr.loadAt 90 (.pointer (some ⟨g, o, none⟩))).run Tryd.prog w = .ok (.agg (stC x 0)) w := by
  rw [← stC_zero]
  refine run_loadAt_mid w g o 90 (x.list.map wordV) _ (hrow.range o _ fun j v hv => ?_) Tryd.underlying90 rfl (by rw [show (x.list.map wordV).length = 8 from rfl]; exact info8)
  have hj : j < 8 := by
    rcases Nat.lt_or_ge j 8 with h | h
    · exact h
    · rw [List.getElem?_eq_none (by simp [Sha.St.list]; omega)] at hv; cases hv
  rw [hx j hj, ← hv]
  have : ∀ j : Fin 8, some (wordV (x.get j.val)) = (x.list.map wordV)[j.val]? := by
    intro j
    match j with
    | 0 => rfl
    | 1 => rfl
    | 2 => rfl
    | 3 => rfl
    | 4 => rfl
    | 5 => rfl
    | 6 => rfl
    | 7 => rfl
  exact this ⟨j, hj⟩
end Go.Proofs.YthabgfghogdkcaaDoor
namespace Go.Proofs.YthabgfghogdkcaaDoor
open Go.RowKit Go.Shelf
theorem st_cell {W : World} {bx : Nat} {s : Sha.St} {t i j : Nat} (hrow : Row W bx 90 (stC s t)) (hi : i < 8) (ht : t < 64) (hj : ((i : Int) + 64 - (t : Int)) % 8 = (j : Int)) : W.cell? ⟨bx, j, none⟩ = some (.int .u32 ((s.get i).toNat : Int)) := by
  have hj8 : j < 8 := by omega
  rw [hrow.cell, stC_get s t j hj8, show (j + t) % 8 = i from by omega]
theorem st_next (s : Sha.St) (t j3 j7 : Nat) (ht : t < 64) (k w : BitVec 32) (h3 : ((3 : Int) + 64 - (t : Int)) % 8 = (j3 : Int)) (h7 : ((7 : Int) + 64 - (t : Int)) % 8 = (j7 : Int)) :
    ((stC s t).setIfInBounds j3 (wordV (Sha.rnd k w s).e)).setIfInBounds j7 (wordV (Sha.rnd k w s).a) = stC (Sha.rnd k w s) (t + 1) := by
  apply Array.ext_getElem?
  intro i
  rw [Array.getElem?_setIfInBounds, Array.getElem?_setIfInBounds]
  have hs : (stC s t).size = 8 := stC_size s t
  by_cases hi : i < 8
  · rw [stC_get (Sha.rnd k w s) (t + 1) i hi]
    by_cases e7 : j7 = i
    · subst e7
      rw [if_pos rfl, if_pos (by simp [hs]; omega), show (j7 + (t + 1)) % 8 = 0 from by omega]
      rfl
    · rw [if_neg e7]
      by_cases e3 : j3 = i
      · subst e3
        rw [if_pos rfl, if_pos (by omega), show (j3 + (t + 1)) % 8 = 4 from by omega]
        rfl
      · rw [if_neg e3, stC_get s t i hi]
        obtain ⟨v, hv⟩ : ∃ v, (i + t) % 8 = v := ⟨_, rfl⟩
        have hv8 : v < 8 := by omega
        have h0 : v ≠ 3 := by omega
        have h1 : v ≠ 7 := by omega
        rw [hv, show (i + (t + 1)) % 8 = v + 1 from by omega]
        have : ∀ v : Fin 8, v.val ≠ 3 → v.val ≠ 7 → s.get v.val = (Sha.rnd k w s).get (v.val + 1) := by
          intro v
          match v with
          | 0 => intro _ _; rfl
          | 1 => intro _ _; rfl
          | 2 => intro _ _; rfl
          | 3 => intro h _; exact absurd rfl h
          | 4 => intro _ _; rfl
          | 5 => intro _ _; rfl
          | 6 => intro _ _; rfl
          | 7 => intro _ h; exact absurd rfl h
        rw [this ⟨v, hv8⟩ h0 h1]
  · rw [if_neg (by omega), if_neg (by omega), Array.getElem?_eq_none (by omega), Array.getElem?_eq_none (by rw [stC_size]; omega)]
theorem later_grown {X Y : World} (h : Later X Y) (r : Nat) : X.grownBy Y (some r) := ⟨h.os, h.tape, h.output, h.size, fun k hk _ => h.block k hk⟩
/-- All that was stays, but for two blocks. -/
structure Held (bm bx : Nat) (w0 W : World) : Prop where
  os : W.os = w0.os
  tape : W.tape = w0.tape
  output : W.output = w0.output
  size : w0.heap.size ≤ W.heap.size
  block : ∀ k, k < w0.heap.size → k ≠ bm → k ≠ bx → W.heap[k]? = w0.heap[k]?
theorem Held.refl (bm bx : Nat) (w : World) : Held bm bx w w := ⟨rfl, rfl, rfl, Nat.le_refl _, fun _ _ _ _ => rfl⟩
theorem Held.grown {bm bx : Nat} {w0 X Y : World} {row : Option Nat} (h : Held bm bx w0 X) (hg : X.grownBy Y row) (hr : ∀ r, row = some r → r = bm ∨ r = bx ∨ w0.heap.size ≤ r) : Held bm bx w0 Y :=
  ⟨hg.os.trans h.os, hg.tape.trans h.tape, hg.output.trans h.output, Nat.le_trans h.size hg.size, fun k hk h1 h2 => (hg.block k (Nat.lt_of_lt_of_le hk h.size) (fun e => by
    rcases hr k e.symm with h3 | h3 | h3
    · exact h1 h3
    · exact h2 h3
    · omega)).trans (h.block k hk h1 h2)⟩
theorem Held.later {bm bx : Nat} {w0 X Y : World} (h : Held bm bx w0 X) (hL : Later X Y) : Held bm bx w0 Y := h.grown (grown_of_below hL) (fun r e => by cases e)
theorem Held.set {bm bx : Nat} {w0 X : World} (h : Held bm bx w0 X) (j : Nat) (v : Value) : Held bm bx w0 (X.setCell ⟨bx, j, none⟩ v) := h.grown (grown_set X bx j v) (fun r e => by cases e; exact .inr (.inl rfl))
theorem stab_held {β : Type} {bm bx : Nat} {w0 : World} : Stab w0.heap.size (fun r => r = bm) (fun (_ : β) W => Held bm bx w0 W) := fun _ X Y row hs hg hr => hs.grown hg (fun r e => by
  rcases hr r e with h | ⟨h, _⟩
  · exact .inl h
  · exact .inr (.inr h))
theorem Keeps.trans {S : Nat → Prop} {bm : Nat} {A B D : World} (h : Keeps S bm A B) (k : Keeps S bm B D) : Keeps S bm A D := ⟨fun i hi => (k.1 i hi).trans (h.1 i hi), k.2.trans h.2⟩
theorem idxK {b j : Nat} {W : World} (h : j < 64) : (Instr.indexAt 120 (.pointer (some ⟨b, 0, none⟩)) (.int .i64 (j : Int))).run Tryd.prog W = .ok (.pointer (some ⟨b, j, none⟩)) W := by
  have h1 : (j : Int) < 64 := by omega
  have h2 : (0 : Int) ≤ (j : Int) := by omega
  go_simp
theorem info39 : (Tryd.prog.info? 88).map (fun i => (i.zero, i.size, i.bytes)) = some (some (.int .u32 0), 1, 4) := by kernel_rfl
theorem idxAgg {cs : Array Value} {k : Nat} {v : Value} {W : World} (hk : k < 8) (h : cs[k]? = some v) : (Instr.index 90 (.agg cs) (.int .i64 (k : Int))).run Tryd.prog W = .ok v W := by
  have h1 : (k : Int) < 8 := by omega
  have h2 : (0 : Int) ≤ (k : Int) := by omega
  obtain ⟨i, hi0, hz, hs, hb⟩ := info_parts info39
  simp [Instr.index, run_underlying Tryd.underlying90, asIntOf, h1, h2, sizeOf, typeInfo, hi0, hs]
  rw [if_pos hk]
  have h' : cs[k]?.getD undef = v := by rw [h]; rfl
  simp [part, go_sem, sizeOf, typeInfo, hi0, hs, h, h']
theorem setFrom_snoc (vs : List Value) (v : Value) : ∀ (o : Nat) (cs : Array Value), setFrom cs o (vs ++ [v]) = (setFrom cs o vs).setIfInBounds (o + vs.length) v := by
  induction vs with
  | nil => intro o cs; rfl
  | cons x vs ih =>
    intro o cs
    rw [List.cons_append, setFrom, setFrom, ih, List.length_cons, show o + 1 + vs.length = o + (vs.length + 1) from by omega]
/-- Some words of a state have been laid. -/
def stTo (cs : Array Value) (o : Nat) (z : Sha.St) (k : Nat) : Array Value := setFrom cs o ((z.list.map wordV).take k)
theorem list_get (z : Sha.St) (k : Nat) (h : k < 8) : (z.list.map wordV)[k]? = some (wordV (z.get k)) := by
  have : ∀ k : Fin 8, (z.list.map wordV)[k.val]? = some (wordV (z.get k.val)) := by
    intro k
    match k with
    | 0 => rfl
    | 1 => rfl
    | 2 => rfl
    | 3 => rfl
    | 4 => rfl
    | 5 => rfl
    | 6 => rfl
    | 7 => rfl
  exact this ⟨k, h⟩
theorem stTo_succ (cs : Array Value) (o : Nat) (z : Sha.St) (k : Nat) (h : k < 8) : stTo cs o z (k + 1) = (stTo cs o z k).setIfInBounds (o + k) (wordV (z.get k)) := by
  have hl : (z.list.map wordV).length = 8 := rfl
  have hg := list_get z k h
  rw [List.getElem?_eq_getElem (by omega)] at hg
  unfold stTo
  rw [List.take_succ_eq_append_getElem (by omega), setFrom_snoc, List.length_take, Option.some.inj hg]
  congr 1
  omega
theorem stTo_get (cs : Array Value) (o : Nat) (z : Sha.St) (k i : Nat) (hk : k ≤ i) (hi : i < 8) (hs : o + 8 ≤ cs.size) : (stTo cs o z k)[o + i]? = cs[o + i]? := by
  unfold stTo
  rw [setFrom_get _ _ _ _ (by rw [List.length_take]; have : (z.list.map wordV).length = 8 := rfl; omega), if_neg]
  rw [List.length_take]; omega
theorem st_add_get (x y : Sha.St) (k : Nat) : (x.add y).get k = x.get k + y.get k := by
  match k with
  | 0 => rfl
  | 1 => rfl
  | 2 => rfl
  | 3 => rfl
  | 4 => rfl
  | 5 => rfl
  | 6 => rfl
  | _ + 7 => rfl
theorem st_eight (y : Sha.St) (i : Nat) (h : i < 8) : (stC y 64)[0 + i]? = some (wordV (y.get i)) := by
  rw [Nat.zero_add, stC_get y 64 i h, show (i + 64) % 8 = i from by omega]
theorem fieldP {b o : Nat} {W : World} : (Instr.fieldAt 125 (.pointer (some ⟨b, o, none⟩)) 0).run Tryd.prog W = .ok (.pointer (some ⟨b, o, none⟩)) W := by
  go_simp
theorem idxS {b o j : Nat} {W : World} (h : j < 8) : (Instr.indexAt 90 (.pointer (some ⟨b, o, none⟩)) (.int .i64 (j : Int))).run Tryd.prog W = .ok (.pointer (some ⟨b, o + j, none⟩)) W := by
  have h1 : (j : Int) < 8 := by omega
  have h2 : (0 : Int) ≤ (j : Int) := by omega
  go_simp
end Go.Proofs.YthabgfghogdkcaaDoor
namespace Go.Proofs.YthabgfghogdkcaaDoor
open Go.RowKit Go.Shelf
attribute [local go_sem] Oper.semAt_some
set_option maxRecDepth 100000 in
set_option maxHeartbeats 4000000 in
theorem block_any (g o : Nat) (T : TypeId) (cs : Array Value) (x : Sha.St) (A : Option Addr) (c : Nat) (l : List UInt8) (w : World) (hl : l.length = 64) (hcap : 64 ≤ c) (hmx : c ≤ 9223372036854775807) (hr : Rd w A l) (hrow : Row w g T cs) (hx : ∀ i, i < 8 → cs[o + i]? = some (wordV (x.get i))) :
    Calls Tryd.prog 81 #[.pointer (some ⟨g, o, none⟩), .slice A 64 c] w fun e w' => e = .returned (.tuple #[]) ∧ Row w' g T (setFrom cs o ((Sha.blk x l).list.map wordV)) ∧ w.grownBy w' (some g) := by
  obtain ⟨b, ob, rfl, h0'⟩ := hr.at_ (k := 0) (by omega)
  clear h0'
  have hz := ringTo_zero l
  have HZ := Lib.hid hz
  have HL := Lib.hid hl
  have HX := Lib.hid hx
  clear hz hl hx
  refine (callsIn_wide (n := 6)).1 ?_
  refine callsIn_of_wp_marks Tryd.func81 rfl trivial ?_ rfl
  simp only [Tryd.ntmps81, List.size_toArray, List.length_cons, List.length_nil, Nat.reduceAdd, Nat.reduceSub, Array.replicate_succ, Array.replicate_zero, List.push_toArray, List.append_toArray, List.nil_append, List.cons_append]
  refine wpIn_wide.2 ?_
  go_wp2_with (first
    | (with_reducible refine wpList_alloc rfl 139 rfl (alloc16 _) ?_))
  go_loopw [5, 22] (fun _ t wr => ∃ k : Nat, k ≤ 16 ∧ t = .int .i64 k ∧ Row wr w.heap.size 139 (ringTo l k) ∧ Below w.heap.size w wr) (fun _ t _ => 16 - (intOf t).toNat)
  case atStart => exact ⟨0, by omega, rfl, by rw [HZ.out]; exact Row.new w _ _, below_new _ _⟩
  case round =>
    obtain ⟨k, hk, rfl, hrk, hb⟩ := hrel
    by_cases hlt : k < 16
    · have hrk1 := (hr.below hb).cut (k := 4 * k) (n := 4) (by rw [HL.out]; omega)
      have hn4 : ((l.drop (4 * k)).take 4).length = 4 := by rw [List.length_take, List.length_drop, HL.out]; omega
      have hw : Sha.be ((l.drop (4 * k)).take 4) = Sha.wd l k := rfl
      have hset := ringTo_set l k hlt
      have HW := Lib.hid hw
      have HSET := Lib.hid hset
      have H4 := Lib.hid hn4
      have hck : wr.cell? ⟨w.heap.size, k, none⟩ = some ((ringTo l k)[k]'(by simp [ringTo]; exact hlt)) := (hrk.cell k).trans (Array.getElem?_eq_getElem _)
      have hfk := hrk.frozen k
      generalize (ringTo l k)[k]'(by simp [ringTo]; exact hlt) = vk at *
      clear hw hset hn4
      go_wp2_with fail
      refine (number_any _ 4 _ _ wr H4.out (by omega) hrk1).mono ?_
      rintro e w' ⟨rfl, rfl⟩
      rw [HW.out]
      go_wp2_with fail
      go_roundw
      case rel => exact ⟨k + 1, by omega, by go_num, by rw [← HSET.out]; exact hrk.set k _, hb.setCell (p := ⟨w.heap.size, k, none⟩) (Nat.le_refl _) _⟩
      case measure => simp [intOf]; omega
    · obtain rfl : k = 16 := by omega
      rw [ringTo_all] at hrk
      have hLr : Later w wr := hb
      clear hb HZ hcap
      go_upto_region 6 with fail
      go_cut [6] from 6 to 36 (fun v W => ∃ bk, v = .pointer (some ⟨bk, 0, none⟩) ∧ Row W bk 120 kCells ∧ wr.heap.size ≤ bk ∧ Later wr W)
      case first =>
        go_wp2_with fail
        refine (constants_any _).mono ?_
        rintro e w1 ⟨rfl, hb1⟩
        go_wp2_with (first
          | (with_reducible refine wpList_alloc rfl 120 rfl (alloc64 _) ?_)
          | (refine wpList_store rfl 120 (.tmp 6) (.tmp 36) rfl (.pointer (some ⟨w1.heap.size, 0, none⟩)) (.agg kCells) rfl rfl (storeK _) ?_))
        go_meet
        exact ⟨w1.heap.size, rfl, Row.new w1 _ _, hb1.size, ((Later.refl wr).call hb1).alloc _⟩
      case rest =>
        obtain ⟨bk, rfl, hbk, hbk0, hLk⟩ := hcut
        go_upto_region 7 with fail
        obtain ⟨wk, rfl⟩ : ∃ y, y = wc := ⟨_, rfl⟩
        go_cut [7, 8] from 7 to 40 (fun p q W => ∃ b7 b8, p = .pointer (some ⟨b7, 0, none⟩) ∧ q = .pointer (some ⟨b8, 0, none⟩) ∧ IsFn W b7 32 [2, 13, 22] (fun k => wk.heap.size ≤ k) ∧ IsFn W b8 32 [6, 11, 25] (fun k => wk.heap.size ≤ k) ∧ Later wk W)
        case first =>
          go_wp2_with (first | (go_at_call 91; refine (rotations_any _ _ _ _).mono ?_; rintro e w' ⟨rfl, rfl⟩))
          go_meet
          refine ⟨_, _, rfl, rfl, ⟨_, wk.heap.size + 1, wk.heap.size + 1 + 1, wk.heap.size, ?_, ⟨rfl, ?_, ?_, ?_⟩, ?_, ?_, ?_, ?_⟩, ⟨_, wk.heap.size + 1 + 1 + 1 + 1, wk.heap.size + 1 + 1 + 1 + 1 + 1, wk.heap.size + 1 + 1 + 1, ?_, ⟨rfl, ?_, ?_, ?_⟩, ?_, ?_, ?_, ?_⟩, ?_⟩
          all_goals first
            | omega
            | ((repeat (first | (refine Row.newAt ?_; simp only [World.size_alloc]; done) | refine Row.alloc ?_ _)); done)
            | ((repeat (first | exact Later.refl _ | refine Later.alloc ?_ _)); done)
        case rest =>
          obtain ⟨b7, b8, rfl, rfl, h7, h8, hL8⟩ := hcut
          go_upto_region 8 with fail
          obtain ⟨wn, rfl⟩ : ∃ y, y = wc := ⟨_, rfl⟩
          have hL0 : Later w wn := ((hLr.step hLk).step hL8)
          have hrow8 := hrow.later hL0
          go_cut [9] from 9 to 44 (fun p W => ∃ bx, p = .pointer (some ⟨bx, 0, none⟩) ∧ Row W bx 90 (stC x 0) ∧ wn.heap.size ≤ bx ∧ Later wn W)
          case first =>
            go_wp2_with (first
              | (refine wpList_load rfl 90 (.tmp 43) rfl (.pointer (some ⟨g, o, none⟩)) rfl (loadS hrow8 HX.out) ?_)
              | (with_reducible refine wpList_alloc rfl 90 rfl (alloc8 _) ?_)
              | (refine wpList_store rfl 90 (.tmp 9) (.tmp 44) rfl (.pointer (some ⟨wn.heap.size, 0, none⟩)) (.agg (stC x 0)) rfl rfl (storeS x _) ?_))
            go_meet
            exact ⟨_, rfl, Row.new wn _ _, Nat.le_refl _, (Later.refl wn).alloc _⟩
          case rest =>
            obtain ⟨bx, rfl, hbx, hbx0, hLx⟩ := hcut
            obtain ⟨wx, rfl⟩ : ∃ y, y = wc := ⟨_, rfl⟩
            go_wp2_with (first | (go_at_call 92; refine (all_any _ _).mono ?_; rintro e wf ⟨bq, bn, bf, rfl, hall, hba⟩))
            obtain ⟨bm, hbm⟩ : ∃ y, y = w.heap.size := ⟨_, rfl⟩
            rw [← hbm] at hrk hall ⊢
            have hs0 := hrk.lt
            have hs1 := hLk.size
            have hs2 := hL8.size
            have hs3 := hLx.size
            have hs4 := Below.size hba
            have hs5 := hbx.lt
            have hs6 := hbk.lt
            have hs7 := hrow.lt
            have hLf : Later wn wf := hLx.step hba
            have hrm : Row wf bm 139 (ringC (Sha.wd l) 0) := hrk.later ((hLk.step hL8).step hLf)
            have hrk2 : Row wf bk 120 kCells := hbk.later (hL8.step hLf)
            have hrx2 : Row wf bx 90 (stC x 0) := hbx.later hba
            have hrg : Row wf g T cs := hrow.later (hL0.step hLf)
            obtain ⟨S, hSd⟩ : ∃ S : Nat → Prop, S = fun k => k ≠ bm ∧ k ≠ bx ∧ k < wf.heap.size := ⟨_, rfl⟩
            have HBM := Lib.hid hbm
            have hSi : ∀ k, k ≠ bm → k ≠ bx → k < wf.heap.size → S k := fun k a b c => by rw [hSd]; exact ⟨a, b, c⟩
            have hSo : ∀ k, S k → k ≠ bm ∧ k ≠ bx ∧ k < wf.heap.size := fun k h => by rw [hSd] at h; exact h
            have h7s : IsFn wf b7 32 [2, 13, 22] S := (h7.sub fun k a b => hSi k (by omega) (by omega) (by omega)).later hLf
            have h8s : IsFn wf b8 32 [6, 11, 25] S := (h8.sub fun k a b => hSi k (by omega) (by omega) (by omega)).later hLf
            have halS : AllFn wf bm bq bn bf S := ⟨hSi _ (by have := hall.sq; omega) (by have := hall.sq; omega) hall.q.lt, hall.q, hall.n.sub fun k a b => hSi k (by omega) (by omega) b, hall.f.sub fun k a b => hSi k (by omega) (by omega) b⟩
            have hkm : bk ≠ bm := by omega
            have hkx : bk ≠ bx := by omega
            have hgm : g ≠ bm := by omega
            have hgx : g ≠ bx := by omega
            have hmx : bx ≠ bm := by omega
            have hLw : Later w wf := hL0.step hLf
            have HLW := Lib.hid hLw
            have HBML := Lib.hid hrm.lt
            have HS := Lib.hid (And.intro hs5 (And.intro hs6 hs7))
            clear hbm hSd h7 h8 hall hrk hbk hbx hrow hrow8 hL0 hLr hLk hL8 hLx hba hLf hLw hr
            refine name_frame fun T0 hT0 => ?_
            refine (wpIn_wide (n := 6)).1 ?_
            refine wpIn_range_C rfl (by omega) (gf := 95) (lb := #[.pointer (some ⟨bq, 0, none⟩), .pointer (some ⟨bn, 0, none⟩), .pointer (some ⟨bf, 0, none⟩)]) (by rw [hT0]; rfl) trivial (enters_of Tryd.func95 (by kernel_rfl) rfl)
              (all1_seq (Sha.wd l) bm bq bn bf S (fun h => (hSo _ h).1 rfl) wf 5 (by omega) hrm halS) (fun r e => by rw [e]; exact hrm.lt) (fun h k => h.trans k) (fun W l' o' hl' => ⟨fun k hk => World.putObj_heap_other (by have := (hSo k hk).2.2; omega), World.putObj_heap_other (by have := hrm.lt; omega)⟩) (Below.refl _ _) (fun _ => rfl)
              (fun pre W => Row W bx 90 (stC (Sha.rs x (Sha.wd l) pre.length) pre.length) ∧ Held bm bx wf W) (fun _ _ _ => False)
              ((stab_block (B := wf.heap.size) (b := bx) (C := fun r => r = bm) (fun e => hmx e) (fun pre : List Nat => stC (Sha.rs x (Sha.wd l) pre.length) pre.length) 90).and stab_held) (fun _ => stab_false _ _) ⟨hrx2, Held.refl _ _ _⟩
              (fun _ t a' W => ∃ bt, a' = { tmps := (((T0.setIfInBounds 46 (.int .i64 (t : Int))).setIfInBounds 47 (.int .u32 ((Sha.M (Sha.wd l) t).toNat : Int))).setIfInBounds 10 (.pointer (some ⟨bt, 0, none⟩))).setIfInBounds 11 (.int .u32 ((Sha.M (Sha.wd l) t).toNat : Int)), defers := [] } ∧ Row W bt 3 #[intV t] ∧ wf.heap.size ≤ bt)
              (fun pre t a' s' X Y row hs hg hr => by
                obtain ⟨bt, h1, h2, h3⟩ := hs
                exact ⟨bt, h1, h2.grown hg (fun e => by
                  rcases hr bt e.symm with h | ⟨_, ob', ho', hc'⟩
                  · have := hrm.lt; omega
                  · rw [show X.heap[bt]? = _ from h2] at ho'; cases ho'; cases hc'), h3⟩) ?assign ?body ?done ?stop
            case assign =>
              intro l0 pre t W K hi hok hK
              have HK := Lib.hid hK
              have HI := Lib.hid hi
              have hlw : wf.heap.size ≤ W.heap.size := hi.2.size
              clear hK hi hok
              rw [hT0]
              unfold wordEnc
              gi_wp2
              refine HK.out _ _ (KeepsFrom.of_grownBy (World.grownBy_alloc _ _ none) (fun j e => by cases e)) ⟨fun k hk => Below.heap_alloc W _ k (by have := (hSo k hk).2.2; omega), Below.heap_alloc W _ bm (by have := hrm.lt; omega)⟩ ⟨HI.out.1.alloc _, HI.out.2.grown (World.grownBy_alloc _ _ none) (fun r e => by cases e)⟩ ⟨W.heap.size, ?_, Row.new _ _ _, hlw⟩
              rw [hT0]
              rfl
            case body =>
              rintro l0 pre t a' W hl hlo ⟨hrx, hh⟩ ⟨ht, hlt⟩ ⟨bt, rfl, hbt, hbt0⟩
              rw [← ht] at hrx
              have hk7 : ∀ k, S k → W.heap[k]? = wf.heap[k]? := fun k hk => hh.block k (hSo k hk).2.2 (hSo k hk).1 (hSo k hk).2.1
              have h7w := h7s.keep hk7
              have h8w := h8s.keep hk7
              have hkw : Row W bk 120 kCells := (hk7 bk (hSi bk hkm hkx hrk2.lt)).trans hrk2
              have hct : W.cell? ⟨bt, 0, none⟩ = some (.int .i64 (t : Int)) := (hbt.cell 0).trans rfl
              have hck := (hkw.cell t).trans (kCells_get t hlt)
              obtain ⟨lv, ls, lp, ll, hlr, hrl, hlS⟩ := h7w
              obtain ⟨hv, hs, hp, hll, hhr, hrh, hhS⟩ := h8w
              have hc7f := (hlr.cell 0).trans (rfl : _ = some lv)
              have hc8f := (hhr.cell 0).trans (rfl : _ = some hv)
              rw [hrl.val] at hc7f
              rw [hrh.val] at hc8f
              have hbtx : bt ≠ bx := by have := HS.out.1; omega
              have hnext : Sha.rs x (Sha.wd l) (t + 1) = Sha.rnd (Sha.kc t) (Sha.M (Sha.wd l) t) (Sha.rs x (Sha.wd l) t) := rfl
              obtain ⟨j0, hj0⟩ : ∃ j : Nat, ((0 : Int) + 64 - (t : Int)) % 8 = (j : Int) := ⟨(((0 : Int) + 64 - (t : Int)) % 8).toNat, by omega⟩
              obtain ⟨j1, hj1⟩ : ∃ j : Nat, ((1 : Int) + 64 - (t : Int)) % 8 = (j : Int) := ⟨(((1 : Int) + 64 - (t : Int)) % 8).toNat, by omega⟩
              obtain ⟨j2, hj2⟩ : ∃ j : Nat, ((2 : Int) + 64 - (t : Int)) % 8 = (j : Int) := ⟨(((2 : Int) + 64 - (t : Int)) % 8).toNat, by omega⟩
              obtain ⟨j3, hj3⟩ : ∃ j : Nat, ((3 : Int) + 64 - (t : Int)) % 8 = (j : Int) := ⟨(((3 : Int) + 64 - (t : Int)) % 8).toNat, by omega⟩
              obtain ⟨j4, hj4⟩ : ∃ j : Nat, ((4 : Int) + 64 - (t : Int)) % 8 = (j : Int) := ⟨(((4 : Int) + 64 - (t : Int)) % 8).toNat, by omega⟩
              obtain ⟨j5, hj5⟩ : ∃ j : Nat, ((5 : Int) + 64 - (t : Int)) % 8 = (j : Int) := ⟨(((5 : Int) + 64 - (t : Int)) % 8).toNat, by omega⟩
              obtain ⟨j6, hj6⟩ : ∃ j : Nat, ((6 : Int) + 64 - (t : Int)) % 8 = (j : Int) := ⟨(((6 : Int) + 64 - (t : Int)) % 8).toNat, by omega⟩
              obtain ⟨j7, hj7⟩ : ∃ j : Nat, ((7 : Int) + 64 - (t : Int)) % 8 = (j : Int) := ⟨(((7 : Int) + 64 - (t : Int)) % 8).toNat, by omega⟩
              obtain ⟨s, hs⟩ : ∃ s, Sha.rs x (Sha.wd l) t = s := ⟨_, rfl⟩
              obtain ⟨mw, hmw⟩ : ∃ s, Sha.M (Sha.wd l) t = s := ⟨_, rfl⟩
              rw [hs] at hrx hnext
              rw [hmw] at hnext ⊢
              have hc0 := st_cell (i := 0) hrx (by decide) hlt hj0
              have hc1 := st_cell (i := 1) hrx (by decide) hlt hj1
              have hc2 := st_cell (i := 2) hrx (by decide) hlt hj2
              have hc4 := st_cell (i := 4) hrx (by decide) hlt hj4
              have hc5 := st_cell (i := 5) hrx (by decide) hlt hj5
              have hc6 := st_cell (i := 6) hrx (by decide) hlt hj6
              have hc7 := st_cell (i := 7) hrx (by decide) hlt hj7
              have hc3 := st_cell (i := 3) hrx (by decide) hlt hj3
              change _ = some (Value.int .u32 (s.a.toNat : Int)) at hc0
              change _ = some (Value.int .u32 (s.b.toNat : Int)) at hc1
              change _ = some (Value.int .u32 (s.c.toNat : Int)) at hc2
              change _ = some (Value.int .u32 (s.d.toNat : Int)) at hc3
              change _ = some (Value.int .u32 (s.e.toNat : Int)) at hc4
              change _ = some (Value.int .u32 (s.f.toNat : Int)) at hc5
              change _ = some (Value.int .u32 (s.g.toNat : Int)) at hc6
              change _ = some (Value.int .u32 (s.h.toNat : Int)) at hc7
              have hst := st_next s t j3 j7 hlt (Sha.kc t) mw hj3 hj7
              have HNEXT := Lib.hid hnext
              have HSTEP := Lib.hid hst
              have HT := Lib.hid ht
              have HLO := Lib.hid hlo
              have HK7 := Lib.hid hk7
              clear hnext hst ht hs hmw hlo hk7 hlr hhr hhS hkw hrm hrk2 hrx2 hrg h7s h8s halS
              rw [hT0]
              clear hT0
              simp only [List.setIfInBounds_toArray, List.set_cons_succ, List.set_cons_zero]
              gi_wp2
              refine wpIn_region_vals (wide_round l0) [Pr.eq (.func (.func 93) #[] #[.pointer (some ⟨bx, 0, none⟩), .pointer (some ⟨bt, 0, none⟩)]), Pr.eq (.pointer (some ⟨bx, j0, none⟩)), Pr.eq (.pointer (some ⟨bx, j0, none⟩)), Pr.eq (.int .u32 ((s.a).toNat : Int)), Pr.eq (.func (.func 93) #[] #[.pointer (some ⟨bx, 0, none⟩), .pointer (some ⟨bt, 0, none⟩)]), Pr.eq (.pointer (some ⟨bx, j1, none⟩)), Pr.eq (.pointer (some ⟨bx, j1, none⟩)), Pr.eq (.int .u32 ((s.b).toNat : Int)), Pr.eq (.func (.func 93) #[] #[.pointer (some ⟨bx, 0, none⟩), .pointer (some ⟨bt, 0, none⟩)]), Pr.eq (.pointer (some ⟨bx, j2, none⟩)), Pr.eq (.pointer (some ⟨bx, j2, none⟩)), Pr.eq (.int .u32 ((s.c).toNat : Int)), Pr.eq (.int .u32 ((s.a).toNat : Int)), Pr.eq (.int .u32 ((s.b).toNat : Int)), Pr.eq (.int .u32 ((s.c).toNat : Int))] (by kernel_rfl) (by kernel_rfl) (by kernel_rfl) (by kernel_rfl) (by kernel_rfl) ⟨?_, ?_, ?_, ?_, ?_, ?_, ?_, ?_, ?_, ?_, ?_, ?_, ?_, ?_, ?_, trivial⟩ ?_
              · exact fun ac W hL he => stepOk_want rfl (op_move rfl (he.keep (.tmp 12) (by kernel_rfl)))
              · intro ac W hL he; refine stepOk_want rfl ?_; have e0 : ac.eval (.tmp 49) = (.func (.func 93) #[] #[.pointer (some ⟨bx, 0, none⟩), .pointer (some ⟨bt, 0, none⟩)]) := (he.get 0 49 (by kernel_rfl) rfl); exact op_callV (vs := #[.int .i64 0]) rfl e0 (by simp only [List.map_toArray, List.map_cons, List.map_nil]; rfl) (enters_of Tryd.func93 (by kernel_rfl) rfl) (by rfl) ((at_any 0 t j0 bx bt W (by decide) (by decide) hlt hj0 (hL.cell hct)).mono fun e W' ⟨he', hb⟩ => ⟨_, he', hb ▸ Later.refl _, rfl⟩)
              · exact fun ac W hL he => stepOk_want rfl (op_nil rfl (he.get 1 50 (by kernel_rfl) rfl) rfl)
              · exact fun ac W hL he => stepOk_want rfl (op_load rfl (he.get 2 51 (by kernel_rfl) rfl) (load32 (hL.cell hc0)) rfl)
              · exact fun ac W hL he => stepOk_want rfl (op_move rfl (he.keep (.tmp 12) (by kernel_rfl)))
              · intro ac W hL he; refine stepOk_want rfl ?_; have e0 : ac.eval (.tmp 53) = (.func (.func 93) #[] #[.pointer (some ⟨bx, 0, none⟩), .pointer (some ⟨bt, 0, none⟩)]) := (he.get 4 53 (by kernel_rfl) rfl); exact op_callV (vs := #[.int .i64 1]) rfl e0 (by simp only [List.map_toArray, List.map_cons, List.map_nil]; rfl) (enters_of Tryd.func93 (by kernel_rfl) rfl) (by rfl) ((at_any 1 t j1 bx bt W (by decide) (by decide) hlt hj1 (hL.cell hct)).mono fun e W' ⟨he', hb⟩ => ⟨_, he', hb ▸ Later.refl _, rfl⟩)
              · exact fun ac W hL he => stepOk_want rfl (op_nil rfl (he.get 5 54 (by kernel_rfl) rfl) rfl)
              · exact fun ac W hL he => stepOk_want rfl (op_load rfl (he.get 6 55 (by kernel_rfl) rfl) (load32 (hL.cell hc1)) rfl)
              · exact fun ac W hL he => stepOk_want rfl (op_move rfl (he.keep (.tmp 12) (by kernel_rfl)))
              · intro ac W hL he; refine stepOk_want rfl ?_; have e0 : ac.eval (.tmp 57) = (.func (.func 93) #[] #[.pointer (some ⟨bx, 0, none⟩), .pointer (some ⟨bt, 0, none⟩)]) := (he.get 8 57 (by kernel_rfl) rfl); exact op_callV (vs := #[.int .i64 2]) rfl e0 (by simp only [List.map_toArray, List.map_cons, List.map_nil]; rfl) (enters_of Tryd.func93 (by kernel_rfl) rfl) (by rfl) ((at_any 2 t j2 bx bt W (by decide) (by decide) hlt hj2 (hL.cell hct)).mono fun e W' ⟨he', hb⟩ => ⟨_, he', hb ▸ Later.refl _, rfl⟩)
              · exact fun ac W hL he => stepOk_want rfl (op_nil rfl (he.get 9 58 (by kernel_rfl) rfl) rfl)
              · exact fun ac W hL he => stepOk_want rfl (op_load rfl (he.get 10 59 (by kernel_rfl) rfl) (load32 (hL.cell hc2)) rfl)
              · exact fun ac W hL he => stepOk_want rfl (op_assign rfl (he.get 3 52 (by kernel_rfl) rfl))
              · exact fun ac W hL he => stepOk_want rfl (op_assign rfl (he.get 7 56 (by kernel_rfl) rfl))
              · exact fun ac W hL he => stepOk_want rfl (op_assign rfl (he.get 11 60 (by kernel_rfl) rfl))
              · intro xs W1 hL1 hx
                have h12 : xs 12 = wordV s.a := hx 12 (by decide)
                have h13 : xs 13 = wordV s.b := hx 13 (by decide)
                have h14 : xs 14 = wordV s.c := hx 14 (by decide)
                clear hx
                simp only [putL, Nat.reduceAdd, Act.put, List.setIfInBounds_toArray, List.set_cons_succ, List.set_cons_zero, h12, h13, h14]
                clear h12 h13 h14
                replace hrx := hrx.later hL1
                replace hct := hL1.cell hct
                replace hc3 := hL1.cell hc3
                replace hc4 := hL1.cell hc4
                replace hc5 := hL1.cell hc5
                replace hc6 := hL1.cell hc6
                replace hc7 := hL1.cell hc7
                replace hc7f := hL1.cell hc7f
                replace hc8f := hL1.cell hc8f
                replace hck := hL1.cell hck
                replace hrl := hrl.later hL1
                replace hrh := hrh.later hL1
                clear hc0 hc1 hc2
                gi_wp2
                refine wpIn_region_vals (wide_round l0) [Pr.eq (.func (.func 93) #[] #[.pointer (some ⟨bx, 0, none⟩), .pointer (some ⟨bt, 0, none⟩)]), Pr.eq (.pointer (some ⟨bx, j4, none⟩)), Pr.eq (.pointer (some ⟨bx, j4, none⟩)), Pr.eq (.int .u32 ((s.e).toNat : Int)), Pr.eq (.func (.func 93) #[] #[.pointer (some ⟨bx, 0, none⟩), .pointer (some ⟨bt, 0, none⟩)]), Pr.eq (.pointer (some ⟨bx, j5, none⟩)), Pr.eq (.pointer (some ⟨bx, j5, none⟩)), Pr.eq (.int .u32 ((s.f).toNat : Int)), Pr.eq (.func (.func 93) #[] #[.pointer (some ⟨bx, 0, none⟩), .pointer (some ⟨bt, 0, none⟩)]), Pr.eq (.pointer (some ⟨bx, j6, none⟩)), Pr.eq (.pointer (some ⟨bx, j6, none⟩)), Pr.eq (.int .u32 ((s.g).toNat : Int)), Pr.eq (.int .u32 ((s.e).toNat : Int)), Pr.eq (.int .u32 ((s.f).toNat : Int)), Pr.eq (.int .u32 ((s.g).toNat : Int))] (by kernel_rfl) (by kernel_rfl) (by kernel_rfl) (by kernel_rfl) (by kernel_rfl) ⟨?_, ?_, ?_, ?_, ?_, ?_, ?_, ?_, ?_, ?_, ?_, ?_, ?_, ?_, ?_, trivial⟩ ?_
                · exact fun ac W hL he => stepOk_want rfl (op_move rfl (he.keep (.tmp 12) (by kernel_rfl)))
                · intro ac W hL he; refine stepOk_want rfl ?_; have e0 : ac.eval (.tmp 61) = (.func (.func 93) #[] #[.pointer (some ⟨bx, 0, none⟩), .pointer (some ⟨bt, 0, none⟩)]) := (he.get 0 61 (by kernel_rfl) rfl); exact op_callV (vs := #[.int .i64 4]) rfl e0 (by simp only [List.map_toArray, List.map_cons, List.map_nil]; rfl) (enters_of Tryd.func93 (by kernel_rfl) rfl) (by rfl) ((at_any 4 t j4 bx bt W (by decide) (by decide) hlt hj4 (hL.cell hct)).mono fun e W' ⟨he', hb⟩ => ⟨_, he', hb ▸ Later.refl _, rfl⟩)
                · exact fun ac W hL he => stepOk_want rfl (op_nil rfl (he.get 1 62 (by kernel_rfl) rfl) rfl)
                · exact fun ac W hL he => stepOk_want rfl (op_load rfl (he.get 2 63 (by kernel_rfl) rfl) (load32 (hL.cell hc4)) rfl)
                · exact fun ac W hL he => stepOk_want rfl (op_move rfl (he.keep (.tmp 12) (by kernel_rfl)))
                · intro ac W hL he; refine stepOk_want rfl ?_; have e0 : ac.eval (.tmp 65) = (.func (.func 93) #[] #[.pointer (some ⟨bx, 0, none⟩), .pointer (some ⟨bt, 0, none⟩)]) := (he.get 4 65 (by kernel_rfl) rfl); exact op_callV (vs := #[.int .i64 5]) rfl e0 (by simp only [List.map_toArray, List.map_cons, List.map_nil]; rfl) (enters_of Tryd.func93 (by kernel_rfl) rfl) (by rfl) ((at_any 5 t j5 bx bt W (by decide) (by decide) hlt hj5 (hL.cell hct)).mono fun e W' ⟨he', hb⟩ => ⟨_, he', hb ▸ Later.refl _, rfl⟩)
                · exact fun ac W hL he => stepOk_want rfl (op_nil rfl (he.get 5 66 (by kernel_rfl) rfl) rfl)
                · exact fun ac W hL he => stepOk_want rfl (op_load rfl (he.get 6 67 (by kernel_rfl) rfl) (load32 (hL.cell hc5)) rfl)
                · exact fun ac W hL he => stepOk_want rfl (op_move rfl (he.keep (.tmp 12) (by kernel_rfl)))
                · intro ac W hL he; refine stepOk_want rfl ?_; have e0 : ac.eval (.tmp 69) = (.func (.func 93) #[] #[.pointer (some ⟨bx, 0, none⟩), .pointer (some ⟨bt, 0, none⟩)]) := (he.get 8 69 (by kernel_rfl) rfl); exact op_callV (vs := #[.int .i64 6]) rfl e0 (by simp only [List.map_toArray, List.map_cons, List.map_nil]; rfl) (enters_of Tryd.func93 (by kernel_rfl) rfl) (by rfl) ((at_any 6 t j6 bx bt W (by decide) (by decide) hlt hj6 (hL.cell hct)).mono fun e W' ⟨he', hb⟩ => ⟨_, he', hb ▸ Later.refl _, rfl⟩)
                · exact fun ac W hL he => stepOk_want rfl (op_nil rfl (he.get 9 70 (by kernel_rfl) rfl) rfl)
                · exact fun ac W hL he => stepOk_want rfl (op_load rfl (he.get 10 71 (by kernel_rfl) rfl) (load32 (hL.cell hc6)) rfl)
                · exact fun ac W hL he => stepOk_want rfl (op_assign rfl (he.get 3 64 (by kernel_rfl) rfl))
                · exact fun ac W hL he => stepOk_want rfl (op_assign rfl (he.get 7 68 (by kernel_rfl) rfl))
                · exact fun ac W hL he => stepOk_want rfl (op_assign rfl (he.get 11 72 (by kernel_rfl) rfl))
                · intro xs W2 hL2 hx
                  have h12 : xs 12 = wordV s.e := hx 12 (by decide)
                  have h13 : xs 13 = wordV s.f := hx 13 (by decide)
                  have h14 : xs 14 = wordV s.g := hx 14 (by decide)
                  clear hx
                  simp only [putL, Nat.reduceAdd, Act.put, List.setIfInBounds_toArray, List.set_cons_succ, List.set_cons_zero, h12, h13, h14]
                  clear h12 h13 h14
                  replace hrx := hrx.later hL2
                  replace hct := hL2.cell hct
                  replace hc3 := hL2.cell hc3
                  replace hc7 := hL2.cell hc7
                  replace hc7f := hL2.cell hc7f
                  replace hc8f := hL2.cell hc8f
                  replace hck := hL2.cell hck
                  replace hrl := hrl.later hL2
                  replace hrh := hrh.later hL2
                  clear hc4 hc5 hc6
                  gi_wp2
                  refine wpIn_region_vals (wide_round l0) [Pr.eq (.func (.func 93) #[] #[.pointer (some ⟨bx, 0, none⟩), .pointer (some ⟨bt, 0, none⟩)]), Pr.eq (.pointer (some ⟨bx, j7, none⟩)), Pr.eq (.pointer (some ⟨bx, j7, none⟩)), Pr.eq (.int .u32 ((s.h).toNat : Int)), Pr.eq (.func (.func 94) #[] #[.pointer (some ⟨hs, 0, none⟩), .pointer (some ⟨hp, 0, none⟩)]), Pr.eq (.int .u32 ((s.e).toNat : Int)), Pr.eq (.int .u32 ((Sha.S1 s.e).toNat : Int)), Pr.eq (.int .u32 ((s.h + Sha.S1 s.e).toNat : Int)), Pr.eq (.int .u32 ((s.g).toNat : Int)), Pr.eq (.int .u32 ((s.e).toNat : Int)), Pr.eq (.int .u32 ((s.f).toNat : Int)), Pr.eq (.int .u32 ((s.g).toNat : Int)), Pr.eq (.int .u32 ((s.f ^^^ s.g).toNat : Int)), Pr.eq (.int .u32 ((s.e &&& (s.f ^^^ s.g)).toNat : Int)), Pr.eq (.int .u32 ((s.g ^^^ (s.e &&& (s.f ^^^ s.g))).toNat : Int)), Pr.eq (.int .u32 ((s.h + Sha.S1 s.e + (s.g ^^^ (s.e &&& (s.f ^^^ s.g)))).toNat : Int)), Pr.eq (.int .i64 (t : Int)), Pr.eq (.pointer (some ⟨bk, t, none⟩)), Pr.eq (.int .u32 ((Sha.kc t).toNat : Int)), Pr.eq (.int .u32 ((s.h + Sha.S1 s.e + (s.g ^^^ (s.e &&& (s.f ^^^ s.g))) + Sha.kc t).toNat : Int)), Pr.eq (.int .u32 ((mw).toNat : Int)), Pr.eq (.int .u32 ((s.h + Sha.S1 s.e + (s.g ^^^ (s.e &&& (s.f ^^^ s.g))) + Sha.kc t + mw).toNat : Int)), Pr.eq (.int .u32 ((s.h + Sha.S1 s.e + (s.g ^^^ (s.e &&& (s.f ^^^ s.g))) + Sha.kc t + mw).toNat : Int))] (by kernel_rfl) (by kernel_rfl) (by kernel_rfl) (by kernel_rfl) (by kernel_rfl) ⟨?_, ?_, ?_, ?_, ?_, ?_, ?_, ?_, ?_, ?_, ?_, ?_, ?_, ?_, ?_, ?_, ?_, ?_, ?_, ?_, ?_, ?_, ?_, trivial⟩ ?_
                  · exact fun ac W hL he => stepOk_want rfl (op_move rfl (he.keep (.tmp 12) (by kernel_rfl)))
                  · intro ac W hL he; refine stepOk_want rfl ?_; have e0 : ac.eval (.tmp 73) = (.func (.func 93) #[] #[.pointer (some ⟨bx, 0, none⟩), .pointer (some ⟨bt, 0, none⟩)]) := (he.get 0 73 (by kernel_rfl) rfl); exact op_callV (vs := #[.int .i64 7]) rfl e0 (by simp only [List.map_toArray, List.map_cons, List.map_nil]; rfl) (enters_of Tryd.func93 (by kernel_rfl) rfl) (by rfl) ((at_any 7 t j7 bx bt W (by decide) (by decide) hlt hj7 (hL.cell hct)).mono fun e W' ⟨he', hb⟩ => ⟨_, he', hb ▸ Later.refl _, rfl⟩)
                  · exact fun ac W hL he => stepOk_want rfl (op_nil rfl (he.get 1 74 (by kernel_rfl) rfl) rfl)
                  · exact fun ac W hL he => stepOk_want rfl (op_load rfl (he.get 2 75 (by kernel_rfl) rfl) (load32 (hL.cell hc7)) rfl)
                  · exact fun ac W hL he => stepOk_want rfl (op_load rfl (he.keep (.tmp 8) (by kernel_rfl)) (loadF (hL.cell hc8f)) rfl)
                  · exact fun ac W hL he => stepOk_want rfl (op_move rfl (he.keep (.tmp 16) (by kernel_rfl)))
                  · intro ac W hL he; refine stepOk_want rfl ?_; have e0 : ac.eval (.tmp 77) = (.func (.func 94) #[] #[.pointer (some ⟨hs, 0, none⟩), .pointer (some ⟨hp, 0, none⟩)]) := (he.get 4 77 (by kernel_rfl) rfl); have e1 : ac.eval (.tmp 78) = (.int .u32 ((s.e).toNat : Int)) := (he.get 5 78 (by kernel_rfl) rfl); exact op_callV rfl e0 (by simp only [List.map_toArray, List.map_cons, List.map_nil, e1]; rfl) (enters_of Tryd.func94 (by kernel_rfl) rfl) (by rfl) ((rot_S1 s.e W (hrh.later hL)).mono fun e W' ⟨he', hb⟩ => ⟨_, he', hb ▸ Later.refl _, rfl⟩)
                  · exact fun ac W hL he => stepOk_want rfl (op_binOp rfl (he.get 3 76 (by kernel_rfl) rfl) (he.get 6 79 (by kernel_rfl) rfl) eqg_add add32 rfl)
                  · exact fun ac W hL he => stepOk_want rfl (op_move rfl (he.keep (.tmp 18) (by kernel_rfl)))
                  · exact fun ac W hL he => stepOk_want rfl (op_move rfl (he.keep (.tmp 16) (by kernel_rfl)))
                  · exact fun ac W hL he => stepOk_want rfl (op_move rfl (he.keep (.tmp 17) (by kernel_rfl)))
                  · exact fun ac W hL he => stepOk_want rfl (op_move rfl (he.keep (.tmp 18) (by kernel_rfl)))
                  · exact fun ac W hL he => stepOk_want rfl (op_binOp rfl (he.get 10 83 (by kernel_rfl) rfl) (he.get 11 84 (by kernel_rfl) rfl) eqg_xor xor32 rfl)
                  · exact fun ac W hL he => stepOk_want rfl (op_binOp rfl (he.get 9 82 (by kernel_rfl) rfl) (he.get 12 85 (by kernel_rfl) rfl) eqg_and and32 rfl)
                  · exact fun ac W hL he => stepOk_want rfl (op_binOp rfl (he.get 8 81 (by kernel_rfl) rfl) (he.get 13 86 (by kernel_rfl) rfl) eqg_xor xor32 rfl)
                  · exact fun ac W hL he => stepOk_want rfl (op_binOp rfl (he.get 7 80 (by kernel_rfl) rfl) (he.get 14 87 (by kernel_rfl) rfl) eqg_add add32 rfl)
                  · exact fun ac W hL he => stepOk_want rfl (op_load rfl (he.keep (.tmp 10) (by kernel_rfl)) (loadI (hL.cell hct)) rfl)
                  · exact fun ac W hL he => stepOk_want rfl (op_idx rfl (he.keep (.tmp 6) (by kernel_rfl)) (he.get 16 89 (by kernel_rfl) rfl) (idxK hlt) rfl)
                  · exact fun ac W hL he => stepOk_want rfl (op_load rfl (he.get 17 90 (by kernel_rfl) rfl) (load32 (hL.cell hck)) rfl)
                  · exact fun ac W hL he => stepOk_want rfl (op_binOp rfl (he.get 15 88 (by kernel_rfl) rfl) (he.get 18 91 (by kernel_rfl) rfl) eqg_add add32 rfl)
                  · exact fun ac W hL he => stepOk_want rfl (op_move rfl (he.keep (.tmp 11) (by kernel_rfl)))
                  · exact fun ac W hL he => stepOk_want rfl (op_binOp rfl (he.get 19 92 (by kernel_rfl) rfl) (he.get 20 93 (by kernel_rfl) rfl) eqg_add add32 rfl)
                  · exact fun ac W hL he => stepOk_want rfl (op_assign rfl (he.get 21 94 (by kernel_rfl) rfl))
                  · intro xs W3 hL3 hx
                    have h22 : xs 22 = wordV (s.h + Sha.S1 s.e + (s.g ^^^ (s.e &&& (s.f ^^^ s.g))) + Sha.kc t + mw) := hx 22 (by decide)
                    clear hx
                    simp only [putL, Nat.reduceAdd, Act.put, List.setIfInBounds_toArray, List.set_cons_succ, List.set_cons_zero, h22]
                    clear h22
                    replace hrx := hrx.later hL3
                    replace hct := hL3.cell hct
                    replace hc3 := hL3.cell hc3
                    replace hc7f := hL3.cell hc7f
                    replace hrl := hrl.later hL3
                    have hf3 := hrx.frozen j3
                    obtain ⟨ad, had⟩ : ∃ y, s.h + Sha.S1 s.e + (s.g ^^^ (s.e &&& (s.f ^^^ s.g))) + Sha.kc t + mw = y := ⟨_, rfl⟩
                    rw [had]
                    have HAD := Lib.hid had
                    have hda := bv_add s.d ad
                    clear hc7 hc8f hck hrh had
                    gi_wp2_with (refine ⟨trivial, ?_⟩; gi_at_call 93; refine (CallsIn.inRound l0 (callsIn_wide.2 (at_any 3 t j3 bx bt _ (by decide) (by decide) hlt hj3 hct))).mono ?_; rintro e w' ⟨rfl, rfl⟩)
                    refine opIn_of_op (wide_round l0) (plain_of rfl) (op_storeK (x := .tmp 101) (y := .tmp 100) (vx := .pointer (some ⟨bx, j3, none⟩)) (vy := wordV (s.d + ad)) rfl (by rfl) (by rfl) (store32 hc3 hf3) ?_)
                    have hrx4 := hrx.set j3 (wordV (s.d + ad))
                    have hg4 := grown_set W3 bx j3 (wordV (s.d + ad))
                    have hk4 : ∀ k, S k → (W3.setCell ⟨bx, j3, none⟩ (wordV (s.d + ad))).heap[k]? = W3.heap[k]? := fun k hk => heap_setCell_other W3 _ _ _ (hSo k hk).2.1
                    have hc7f4 : (W3.setCell ⟨bx, j3, none⟩ (wordV (s.d + ad))).cell? ⟨b7, 0, none⟩ = some (.func (.func 94) #[] #[.pointer (some ⟨ls, 0, none⟩), .pointer (some ⟨lp, 0, none⟩)]) := by rw [World.cell?_of_block (w := W3) (hk4 b7 hlS.1)]; exact hc7f
                    have hrl4 := hrl.keep (hk4 _ hlS.2.1) (hk4 _ hlS.2.2.1) (hk4 _ hlS.2.2.2)
                    have hct4 : (W3.setCell ⟨bx, j3, none⟩ (wordV (s.d + ad))).cell? ⟨bt, 0, none⟩ = some (.int .i64 (t : Int)) := by rw [World.cell?_of_block (w := W3) (heap_setCell_other W3 _ _ _ hbtx)]; exact hct
                    generalize W3.setCell ⟨bx, j3, none⟩ (wordV (s.d + ad)) = W4 at *
                    clear hc3 hf3 hct hc7f hrl hda
                    gi_wp2
                    refine wpIn_region_last (wide_round l0) [Pr.eq (.func (.func 93) #[] #[.pointer (some ⟨bx, 0, none⟩), .pointer (some ⟨bt, 0, none⟩)]), Pr.eq (.pointer (some ⟨bx, j7, none⟩)), Pr.eq (.int .u32 ((ad).toNat : Int)), Pr.eq (.func (.func 94) #[] #[.pointer (some ⟨ls, 0, none⟩), .pointer (some ⟨lp, 0, none⟩)]), Pr.eq (.int .u32 ((s.a).toNat : Int)), Pr.eq (.int .u32 ((Sha.S0 s.a).toNat : Int)), Pr.eq (.int .u32 ((ad + Sha.S0 s.a).toNat : Int)), Pr.eq (.int .u32 ((s.a).toNat : Int)), Pr.eq (.int .u32 ((s.b).toNat : Int)), Pr.eq (.int .u32 ((s.c).toNat : Int)), Pr.eq (.int .u32 ((s.b ||| s.c).toNat : Int)), Pr.eq (.int .u32 ((s.a &&& (s.b ||| s.c)).toNat : Int)), Pr.eq (.int .u32 ((s.b).toNat : Int)), Pr.eq (.int .u32 ((s.c).toNat : Int)), Pr.eq (.int .u32 ((s.b &&& s.c).toNat : Int)), Pr.eq (.int .u32 ((s.a &&& (s.b ||| s.c) ||| s.b &&& s.c).toNat : Int)), Pr.eq (.int .u32 ((ad + Sha.S0 s.a + (s.a &&& (s.b ||| s.c) ||| s.b &&& s.c)).toNat : Int)), Pr.eq (.pointer (some ⟨bx, j7, none⟩))] (by kernel_rfl) (by kernel_rfl) (by kernel_rfl) (by kernel_rfl) (by kernel_rfl) (by kernel_rfl) rfl ⟨?_, ?_, ?_, ?_, ?_, ?_, ?_, ?_, ?_, ?_, ?_, ?_, ?_, ?_, ?_, ?_, ?_, ?_, trivial⟩ ?_
                    · exact fun ac W hL he => stepOk_want rfl (op_move rfl (he.keep (.tmp 12) (by kernel_rfl)))
                    · intro ac W hL he; refine stepOk_want rfl ?_; have e0 : ac.eval (.tmp 102) = (.func (.func 93) #[] #[.pointer (some ⟨bx, 0, none⟩), .pointer (some ⟨bt, 0, none⟩)]) := (he.get 0 102 (by kernel_rfl) rfl); exact op_callV (vs := #[.int .i64 7]) rfl e0 (by simp only [List.map_toArray, List.map_cons, List.map_nil]; rfl) (enters_of Tryd.func93 (by kernel_rfl) rfl) (by rfl) ((at_any 7 t j7 bx bt W (by decide) (by decide) hlt hj7 (hL.cell hct4)).mono fun e W' ⟨he', hb⟩ => ⟨_, he', hb ▸ Later.refl _, rfl⟩)
                    · exact fun ac W hL he => stepOk_want rfl (op_move rfl (he.keep (.tmp 19) (by kernel_rfl)))
                    · exact fun ac W hL he => stepOk_want rfl (op_load rfl (he.keep (.tmp 7) (by kernel_rfl)) (loadF (hL.cell hc7f4)) rfl)
                    · exact fun ac W hL he => stepOk_want rfl (op_move rfl (he.keep (.tmp 13) (by kernel_rfl)))
                    · intro ac W hL he; refine stepOk_want rfl ?_; have e0 : ac.eval (.tmp 105) = (.func (.func 94) #[] #[.pointer (some ⟨ls, 0, none⟩), .pointer (some ⟨lp, 0, none⟩)]) := (he.get 3 105 (by kernel_rfl) rfl); have e1 : ac.eval (.tmp 106) = (.int .u32 ((s.a).toNat : Int)) := (he.get 4 106 (by kernel_rfl) rfl); exact op_callV rfl e0 (by simp only [List.map_toArray, List.map_cons, List.map_nil, e1]; rfl) (enters_of Tryd.func94 (by kernel_rfl) rfl) (by rfl) ((rot_S0 s.a W (hrl4.later hL)).mono fun e W' ⟨he', hb⟩ => ⟨_, he', hb ▸ Later.refl _, rfl⟩)
                    · exact fun ac W hL he => stepOk_want rfl (op_binOp rfl (he.get 2 104 (by kernel_rfl) rfl) (he.get 5 107 (by kernel_rfl) rfl) eqg_add add32 rfl)
                    · exact fun ac W hL he => stepOk_want rfl (op_move rfl (he.keep (.tmp 13) (by kernel_rfl)))
                    · exact fun ac W hL he => stepOk_want rfl (op_move rfl (he.keep (.tmp 14) (by kernel_rfl)))
                    · exact fun ac W hL he => stepOk_want rfl (op_move rfl (he.keep (.tmp 15) (by kernel_rfl)))
                    · exact fun ac W hL he => stepOk_want rfl (op_binOp rfl (he.get 8 110 (by kernel_rfl) rfl) (he.get 9 111 (by kernel_rfl) rfl) eqg_or or32 rfl)
                    · exact fun ac W hL he => stepOk_want rfl (op_binOp rfl (he.get 7 109 (by kernel_rfl) rfl) (he.get 10 112 (by kernel_rfl) rfl) eqg_and and32 rfl)
                    · exact fun ac W hL he => stepOk_want rfl (op_move rfl (he.keep (.tmp 14) (by kernel_rfl)))
                    · exact fun ac W hL he => stepOk_want rfl (op_move rfl (he.keep (.tmp 15) (by kernel_rfl)))
                    · exact fun ac W hL he => stepOk_want rfl (op_binOp rfl (he.get 12 114 (by kernel_rfl) rfl) (he.get 13 115 (by kernel_rfl) rfl) eqg_and and32 rfl)
                    · exact fun ac W hL he => stepOk_want rfl (op_binOp rfl (he.get 11 113 (by kernel_rfl) rfl) (he.get 14 116 (by kernel_rfl) rfl) eqg_or or32 rfl)
                    · exact fun ac W hL he => stepOk_want rfl (op_binOp rfl (he.get 6 108 (by kernel_rfl) rfl) (he.get 15 117 (by kernel_rfl) rfl) eqg_add add32 rfl)
                    · exact fun ac W hL he => stepOk_want rfl (op_nil rfl (he.get 1 103 (by kernel_rfl) rfl) rfl)
                    · intro xs W5 hL5 hx hk hg
                      have e1 := hg 17 119 (by decide) (by kernel_rfl)
                      have e2 := hg 16 118 (by decide) (by kernel_rfl)
                      have v1 : xs 17 = .pointer (some ⟨bx, j7, none⟩) := hx 17 (by decide)
                      have v2 : xs 16 = wordV (ad + Sha.S0 s.a + (s.a &&& (s.b ||| s.c) ||| s.b &&& s.c)) := hx 16 (by decide)
                      rw [v1] at e1
                      rw [v2, BitVec.add_assoc] at e2
                      have hr5 := hrx4.later hL5
                      have hc5' := hr5.cell j7
                      obtain ⟨v7, hv7⟩ : ∃ v, W5.cell? ⟨bx, j7, none⟩ = some v := ⟨_, (hr5.cell j7).trans (Array.getElem?_eq_getElem (by rw [Array.size_setIfInBounds, stC_size]; omega))⟩
                      refine last_store rfl rfl e1 e2 (store32 hv7 (hr5.frozen j7)) ?_
                      have hr6 := hr5.set j7 (wordV (ad + (Sha.S0 s.a + (s.a &&& (s.b ||| s.c) ||| s.b &&& s.c))))
                      have hg6 := grown_set W5 bx j7 (wordV (ad + (Sha.S0 s.a + (s.a &&& (s.b ||| s.c) ||| s.b &&& s.c))))
                      generalize W5.setCell ⟨bx, j7, none⟩ (wordV (ad + (Sha.S0 s.a + (s.a &&& (s.b ||| s.c) ||| s.b &&& s.c)))) = W6 at *
                      clear hx hk hg e1 e2 v1 v2 hc5' hv7
                      have hst : ((stC s t).setIfInBounds j3 (wordV (s.d + ad))).setIfInBounds j7 (wordV (ad + (Sha.S0 s.a + (s.a &&& (s.b ||| s.c) ||| s.b &&& s.c)))) = stC (Sha.rnd (Sha.kc t) mw s) (t + 1) := by rw [← HAD.out]; exact HSTEP.out
                      rw [hst, ← HNEXT.out] at hr6
                      have hG : W.grownBy W6 (some bx) := grown_trans (later_grown hL1 bx) (grown_trans (later_grown hL2 bx) (grown_trans (later_grown hL3 bx) (grown_trans hg4 (grown_trans (later_grown hL5 bx) hg6))))
                      have hsz := hh.size
                      have hpl : (pre ++ [t]).length = t + 1 := by rw [List.length_append, HT.out]; rfl
                      refine (⟨KeepsFrom.of_grownBy hG (fun j e => by cases e; have := HS.out.1; omega), ⟨fun k hk => hG.block k (by have := (hSo k hk).2.2; omega) (fun e => by cases e; exact (hSo _ hk).2.1 rfl), hG.block bm (by have := HBML.out; omega) (fun e => by cases e; exact hmx rfl)⟩, by rw [hpl]; exact hr6, hh.grown hG (fun r e => by cases e; exact .inr (.inl rfl))⟩ : KeepsFrom wf.heap.size W W6 ∧ Keeps S bm W W6 ∧ Row W6 bx 90 (stC (Sha.rs x (Sha.wd l) (pre ++ [t]).length) (pre ++ [t]).length) ∧ Held bm bx wf W6)
            case done =>
              rintro D xs W hD hS ⟨hrx, hh⟩ hK
              rw [hS] at hrx
              have hgW : Row W g T cs := (hh.block g (by have := HS.out.2.2; have := HLW.out.size; omega) hgm hgx).trans hrg
              rw [hT0]
              clear hT0 hrm hrk2 hrx2 h7s h8s halS
              go_upto_region 18 with fail
              obtain ⟨y, hy⟩ : ∃ y, Sha.rs x (Sha.wd l) 64 = y := ⟨_, rfl⟩
              rw [hy] at hrx
              have hld := loadS (o := 0) hrx (st_eight y)
              rw [← show stC y 64 = stC y 0 from rfl] at hld
              have hbl : Sha.blk x l = y.add x := by rw [← hy]; rfl
              have HBL := Lib.hid hbl
              have h8 : o + 8 ≤ cs.size := by
                have := HX.out 7 (by decide)
                have := (Array.getElem?_eq_some_iff.1 this).1
                omega
              have h0 : stTo cs o (y.add x) 0 = cs := rfl
              have H0 := Lib.hid h0
              have hWs := hh.size
              clear hy hbl h0
              go_wp2_with (first | (refine wpList_load rfl 90 (.tmp 9) rfl (.pointer (some ⟨bx, 0, none⟩)) rfl hld ?_))
              go_loopw [20, 21, 121] (fun _ _ t wr => ∃ k : Nat, k ≤ 8 ∧ t = .int .i64 k ∧ Row wr g T (stTo cs o (y.add x) k) ∧ W.grownBy wr (some g)) (fun _ _ t _ => 8 - (intOf t).toNat)
              case atStart => exact ⟨0, by omega, rfl, by rw [H0.out]; exact hgW, grown_refl _ _⟩
              case round =>
                obtain ⟨k, hk, rfl, hrk, hgk⟩ := hrel
                by_cases hlt : k < 8
                · have hix := fun w' : World => idxAgg (W := w') hlt ((stC_get y 64 k hlt).trans (by rw [show (k + 64) % 8 = k from by omega]))
                  have hcx := (hrk.cell (o + k)).trans ((stTo_get cs o (y.add x) k k (Nat.le_refl _) hlt h8).trans (HX.out k hlt))
                  have hfx := hrk.frozen (o + k)
                  have hsu := stTo_succ cs o (y.add x) k hlt
                  rw [st_add_get, BitVec.add_comm] at hsu
                  have HSU := Lib.hid hsu
                  have had := bv_add (x.get k) (y.get k)
                  clear hsu
                  generalize x.get k = xk at *
                  generalize y.get k = yk at *
                  have hxl := xk.isLt
                  have hyl := yk.isLt
                  go_wp2_with fail
                  refine (wpIn_wide (n := 6)).1 ?_
                  refine wpIn_region_last wide_wide [Pr.eq (.pointer (some ⟨g, o, none⟩)), Pr.eq (.int .i64 (k : Int)), Pr.eq (.pointer (some ⟨g, o, none⟩)), Pr.eq (.pointer (some ⟨g, o, none⟩)), Pr.eq (.pointer (some ⟨g, o + k, none⟩)), Pr.eq (.int .u32 (xk.toNat : Int)), Pr.eq (.int .u32 (yk.toNat : Int)), Pr.eq (.int .u32 ((xk + yk).toNat : Int)), Pr.eq (.pointer (some ⟨g, o, none⟩)), Pr.eq (.pointer (some ⟨g, o, none⟩)), Pr.eq (.pointer (some ⟨g, o + k, none⟩))] (by kernel_rfl) (by kernel_rfl) (by kernel_rfl) (by kernel_rfl) (by kernel_rfl) (by kernel_rfl) rfl ⟨?_, ?_, ?_, ?_, ?_, ?_, ?_, ?_, ?_, ?_, ?_, trivial⟩ ?_
                  · exact fun ac W hL he => stepOk_want rfl (op_move rfl (he.keep (.tmp 0) (by kernel_rfl)))
                  · exact fun ac W hL he => stepOk_want rfl (op_move rfl (he.keep (.tmp 20) (by kernel_rfl)))
                  · exact fun ac W hL he => stepOk_want rfl (op_nil rfl (he.get 0 125 (by kernel_rfl) rfl) rfl)
                  · exact fun ac W hL he => stepOk_want rfl (op_fieldAddr rfl (he.get 2 127 (by kernel_rfl) rfl) fieldP rfl)
                  · exact fun ac W hL he => stepOk_want rfl (op_idx rfl (he.get 3 128 (by kernel_rfl) rfl) (he.get 1 126 (by kernel_rfl) rfl) (idxS hlt) rfl)
                  · exact fun ac W hL he => stepOk_want rfl (op_load rfl (he.get 4 129 (by kernel_rfl) rfl) (load32 (hL.cell hcx)) rfl)
                  · exact fun ac W hL he => stepOk_want rfl (op_move rfl (he.keep (.tmp 21) (by kernel_rfl)))
                  · exact fun ac W hL he => stepOk_want rfl (op_binOp rfl (he.get 5 130 (by kernel_rfl) rfl) (he.get 6 131 (by kernel_rfl) rfl) eqg_add add32 rfl)
                  · exact fun ac W hL he => stepOk_want rfl (op_nil rfl (he.get 0 125 (by kernel_rfl) rfl) rfl)
                  · exact fun ac W hL he => stepOk_want rfl (op_fieldAddr rfl (he.get 8 133 (by kernel_rfl) rfl) fieldP rfl)
                  · exact fun ac W hL he => stepOk_want rfl (op_idx rfl (he.get 9 134 (by kernel_rfl) rfl) (he.get 1 126 (by kernel_rfl) rfl) (idxS hlt) rfl)
                  · intro xs W5 hL5 hx hk hg
                    have e1 := hg 10 135 (by decide) (by kernel_rfl)
                    have e2 := hg 7 132 (by decide) (by kernel_rfl)
                    have v1 : xs 10 = .pointer (some ⟨g, o + k, none⟩) := hx 10 (by decide)
                    have v2 : xs 7 = wordV (xk + yk) := hx 7 (by decide)
                    rw [v1] at e1
                    rw [v2] at e2
                    have hr5 := hrk.later hL5
                    refine last_store rfl rfl e1 e2 (store32 (hL5.cell hcx) (hr5.frozen _)) ?_
                    have hr6 := hr5.set (o + k) (wordV (xk + yk))
                    rw [← HSU.out] at hr6
                    have hg6 := grown_trans hgk (grown_trans (later_grown hL5 g) (grown_set W5 g (o + k) (wordV (xk + yk))))
                    clear hx hk hg e1 e2 v1 v2
                    simp only [initL, putL, Nat.reduceAdd, Act.put, List.setIfInBounds_toArray, List.set_cons_succ, List.set_cons_zero]
                    generalize W5.setCell ⟨g, o + k, none⟩ (wordV (xk + yk)) = W6 at *
                    go_wp2_with fail
                    go_roundw
                    case rel => exact ⟨k + 1, by omega, by go_num, hr6, hg6⟩
                    case measure => simp [intOf]; omega
                · obtain rfl : k = 8 := by omega
                  go_wp2_with fail
                  have hDg : D ≠ g := by have := HS.out.2.2; have := HLW.out.size; omega
                  have hKr : wr.heap[D]? = some (.deferred (some [])) := (hgk.block D (Array.getElem?_eq_some_iff.1 hK).1 (fun e => by cases e; exact hDg rfl)).trans hK
                  refine ⟨by simp, .inl ⟨_, _, rfl, run_takeDeferred hKr, ?_⟩⟩
                  refine ⟨_, results_none rfl _ _ _, ?_, ?_⟩
                  · rfl
                  · have hbm' := HBM.out
                    have hwl := HLW.out.size
                    have hst8 : stTo cs o (y.add x) 8 = setFrom cs o ((Sha.blk x l).list.map wordV) := by rw [HBL.out]; rfl
                    rw [← hst8]
                    refine ⟨(World.putObj_heap_other (fun e => hDg e.symm)).trans hrk, hgk.os.trans (hh.os.trans HLW.out.os), hgk.tape.trans (hh.tape.trans HLW.out.tape), hgk.output.trans (hh.output.trans HLW.out.output), ?_, fun k hk hne => ?_⟩
                    · have h1 := hgk.size
                      have h2 : (wr.putObj D (Obj.deferred none)).heap.size = wr.heap.size := by simp [World.putObj]
                      omega
                    · rw [World.putObj_heap_other (by omega), hgk.block k (by omega) hne, hh.block k (by omega) (by omega) (by omega)]
                      exact HLW.out.block k hk
            case stop =>
              rintro D c' pre W _ _ h _
              exact h.elim
end Go.Proofs.YthabgfghogdkcaaDoor
namespace Go.Proofs.YthabgfghogdkcaaDoor
open Go.RowKit Go.Builtin
theorem run_append_zeros1 {P : Program} (w : World) (g : Nat) (c0 : UInt8) (t tn ty e : TypeId) (kn : IntKind) (ht : P.underlying t = some (.slice e)) (htn : P.underlying tn = some (.int kn)) (hi : ByteInfo P e) (hrow : Row w g e #[byteV c0])
    (n : Nat) (h0 : 0 < n) (hm : n ≤ 1000000) :
    ∃ cap, 1 + n ≤ cap ∧ cap ≤ maxLen ∧ (Builtin.append_ #[t, tn] ty #[.slice (some ⟨g, 0, none⟩) 1 1, .int kn n]).run P w =
      .ok (.slice (some ⟨w.heap.size, 0, none⟩) (1 + n) cap) (w.drew.alloc (.cells (#[byteV c0] ++ Builtin.zeroCells #[.int .u8 0] n ++ Builtin.zeroCells #[.int .u8 0] (cap - (1 + n))) e)) := by
  obtain ⟨i, hi0, hz, hs, hb⟩ := info_parts hi
  have hn : n ≠ 0 := by omega
  have hw : IntKind.i64.wrap (n : Int) = n := by rw [IntKind.wrap_i64]; omega
  have hc : w.cell? ⟨g, 0, none⟩ = some (byteV c0) := (hrow.cell 0).trans rfl
  have h63' : ¬ (9223372036854775807 < 1 + (n : Int)) := by omega
  have h48i : ¬ (281474976710656 < (n : Int)) := by omega
  have hneg : ¬ ((n : Int) < 0) := by omega
  have hgt : ¬ (1 + n ≤ 1) := by omega
  refine ⟨grownCap w (1 + n) 1 e, grownCap_ge w _ _ _, grownCap_le_maxLen w _ _ _ (by unfold maxLen; omega), ?_⟩
  have h48' : ¬ (281474976710656 < Builtin.nextslicecap (1 + n) 1) := by
    have := nextslicecap_le (need := 1 + n) (old := 1) (by omega)
    omega
  have hfc : (firstCells 1 1 (.slice (some ⟨g, 0, none⟩) 1 1)).run P w.drew = .ok #[byteV c0] w.drew := by
    refine run_firstCells_some (P := P) w.drew 1 1 ⟨g, 0, none⟩ 1 1 [byteV c0] rfl fun j v hv => ?_
    rcases j with _ | j
    · simp at hv
      subst hv
      rw [show (⟨g, 0, none⟩ : Addr).add 0 = ⟨g, 0, none⟩ from rfl]
      exact hc
    · simp at hv
  simp [Builtin.append_, run_underlying ht, run_underlying htn, sizeOf, typeInfo, zeroValue, hi0, hz, hs, hb, asInt, asIntOf, hw, hn, hneg, hgt, h63', h48', h48i, Question.forced, newRow, grownCap, hfc]
  rfl
theorem zeroCells_list (n : Nat) : Builtin.zeroCells #[.int .u8 0] n = ((List.replicate n (0 : UInt8)).map byteV).toArray := by
  apply Array.ext_getElem?
  intro i
  unfold Builtin.zeroCells
  by_cases h : i < n
  · simp [h, Nat.mod_one]
  · simp [h]
/-- copy of bytes into a row. -/
theorem setRow_setFrom (cur : Array Value) (off : Nat) (cs : List Value) (h : off + cs.length ≤ cur.size) : (cur.toList.take off ++ (cs ++ cur.toList.drop (off + cs.length))).toArray = setFrom cur off cs := by
  apply Array.ext_getElem?
  intro i
  rw [setFrom_get cs off cur i h, List.getElem?_toArray]
  by_cases h1 : i < off
  · rw [if_neg (by omega), List.getElem?_append_left (by simp; omega), List.getElem?_take_of_lt h1, Array.getElem?_toList]
  · rw [List.getElem?_append_right (by simp; omega), List.length_take, show min off cur.toList.length = off from by rw [Array.length_toList]; omega]
    by_cases h2 : i < off + cs.length
    · rw [if_pos (by omega), List.getElem?_append_left (by omega)]
    · rw [if_neg (by omega), List.getElem?_append_right (by omega), List.getElem?_drop, Array.getElem?_toList]
      congr 1
      omega
theorem wpList_copy_rd {P : Program} {w : World} {ops : Array Oper} {rest : List Oper} {o : Oper} {a : Act} {Q : Exit → Act → World → Prop} (hgd : o.guard = none) (d s : Operand) (dT sT : TypeId)
    (ho : o.op = .call { callee := .builtin .copy, args := #[d, s], argTypes := #[dT, sT] }) (elem : TypeId) (hu : P.underlying dT = some (.slice elem)) (hsz : (P.info? elem).map (·.size) = some 1)
    (g off dLen dCap : Nat) (A : Option Addr) (n c : Nat) (l : List UInt8) (hl : l.length = n) (hrd : Rd w A l) (hd : a.eval d = .slice (some ⟨g, off, none⟩) dLen dCap) (hs : a.eval s = .slice A n c)
    (cur : Array Value) (t : TypeId) (hg : Row w g t cur) (m : Nat) (hm : min n dLen = m) (hfit : off + m ≤ cur.size)
    (h : ∀ w', Row w' g t (setFrom cur off ((l.take m).map byteV)) → w.grownBy w' (some g) → wpList P ops Q rest (a.put o.dst (.int .i64 (m : Int))) w') : wpList P ops Q (o :: rest) a w := by
  have hcl : ((l.take m).map byteV).length = m := by rw [List.length_map, List.length_take]; omega
  rcases A with _ | ad
  · have hk : l = [] := by
      rcases l with _ | ⟨x, k⟩
      · rfl
      · obtain ⟨b, o, e, _⟩ := hrd (by simp)
        cases e
    subst hk
    subst hl
    have h0 : m = 0 := by simpa using hm.symm
    subst h0
    exact wpList_copy_nothing hgd d s dT sT ho elem hu hsz _ _ _ _ _ _ hd hs (by simp [Nat.min_def]) (h w (by simpa [setFrom] using hg) (grown_refl w _))
  · refine wpList_copy_own hgd d s dT sT ho elem hu hsz g off dLen dCap ad n c hd hs cur t hg ((l.take m).map byteV) (by rw [hcl]; exact hm.symm) (fun j v hv => ?_) (by rw [hcl]; exact hfit) (fun v hv => by obtain ⟨x, _, rfl⟩ := List.mem_map.1 hv; rfl) ?_
    · have hj : j < m := by
        rcases Nat.lt_or_ge j m with h | h
        · exact h
        · rw [List.getElem?_eq_none (by omega)] at hv; cases hv
      have hjl : j < l.length := by omega
      obtain ⟨b, o, e, hc⟩ := hrd (by intro e; subst e; simp at hjl)
      injection e with e
      subst e
      rw [List.getElem?_map, List.getElem?_take_of_lt hj, List.getElem?_eq_getElem hjl, Option.map_some] at hv
      rw [← Option.some.inj hv, ← hc j hjl]
      rcases Nat.eq_zero_or_pos j with rfl | hp
      · rfl
      · simp [Addr.add, Nat.ne_of_gt hp]
    · rw [setRow_setFrom _ _ _ (by rw [hcl]; exact hfit), show goInt ((l.take m).map byteV).length = .int .i64 (m : Int) from by rw [hcl]; rfl]
      exact h _ (setRow_heap w g _ _ t _ hg) ⟨rfl, rfl, rfl, by simp [World.setRow], fun k hk hn => setRow_other w g k _ (fun e => hn (by rw [e]))⟩
theorem op_copy_rd {P : Program} {w : World} {o : Oper} {a : Act} {K : Act → World → Prop} {Q : Exit → Act → World → Prop} (d s : Operand) (dT sT : TypeId)
    (ho : o.op = .call { callee := .builtin .copy, args := #[d, s], argTypes := #[dT, sT] }) (elem : TypeId) (hu : P.underlying dT = some (.slice elem)) (hsz : (P.info? elem).map (·.size) = some 1)
    (g off dLen dCap : Nat) (A : Option Addr) (n c : Nat) (l : List UInt8) (hl : l.length = n) (hrd : Rd w A l) (hd : a.eval d = .slice (some ⟨g, off, none⟩) dLen dCap) (hs : a.eval s = .slice A n c)
    (cur : Array Value) (t : TypeId) (hg : Row w g t cur) (m : Nat) (hm : min n dLen = m) (hfit : off + m ≤ cur.size)
    (h : ∀ w', Row w' g t (setFrom cur off ((l.take m).map byteV)) → w.grownBy w' (some g) → K (a.put o.dst (.int .i64 (m : Int))) w') : o.wp P a w K Q := by
  have hcl : ((l.take m).map byteV).length = m := by rw [List.length_map, List.length_take]; omega
  rcases A with _ | ad
  · have hk : l = [] := by
      rcases l with _ | ⟨x, k⟩
      · rfl
      · obtain ⟨b, o, e, _⟩ := hrd (by simp)
        cases e
    subst hk
    subst hl
    have h0 : m = 0 := by simpa using hm.symm
    subst h0
    have hrun := run_copy_none (P := P) w dT sT o.type elem (some ⟨g, off, none⟩) none dLen dCap ([] : List UInt8).length c hu hsz (by simp [Nat.min_def])
    unfold Oper.wp
    simp only [execOp, ho, resolve, invoke, builtin, hd, hs, hrun, Sem.run_bind, Sem.run_pure, Result.andThen_ok, List.map_toArray, List.map_cons, List.map_nil]
    exact h w (by simpa [setFrom] using hg) (grown_refl w _)
  · have hrun := run_copy_row (P := P) w dT sT o.type elem g off dLen dCap ad n c cur t ((l.take m).map byteV) hu hsz hg (by rw [hcl]; exact hm.symm) (fun j v hv => by
      have hj : j < m := by
        rcases Nat.lt_or_ge j m with h | h
        · exact h
        · rw [List.getElem?_eq_none (by omega)] at hv; cases hv
      have hjl : j < l.length := by omega
      obtain ⟨b, o, e, hc⟩ := hrd (by intro e; subst e; simp at hjl)
      injection e with e
      subst e
      rw [List.getElem?_map, List.getElem?_take_of_lt hj, List.getElem?_eq_getElem hjl, Option.map_some] at hv
      rw [← Option.some.inj hv, ← hc j hjl]
      rcases Nat.eq_zero_or_pos j with rfl | hp
      · rfl
      · simp [Addr.add, Nat.ne_of_gt hp]) (by rw [hcl]; exact hfit) (fun v hv => by obtain ⟨x, _, rfl⟩ := List.mem_map.1 hv; rfl)
    rw [List.append_assoc, setRow_setFrom _ _ _ (by rw [hcl]; exact hfit), show goInt ((l.take m).map byteV).length = .int .i64 (m : Int) from by rw [hcl]; rfl] at hrun
    unfold Oper.wp
    simp only [execOp, ho, resolve, invoke, builtin, hd, hs, hrun, Sem.run_bind, Sem.run_pure, Result.andThen_ok, List.map_toArray, List.map_cons, List.map_nil]
    exact h _ (setRow_heap w g _ _ t _ hg) ⟨rfl, rfl, rfl, by simp [World.setRow], fun k hk hn => setRow_other w g k _ (fun e => hn (by rw [e]))⟩
/-- append of noughts onto a slice of one byte. -/
theorem append_z {P : Program} (w : World) (g : Nat) (c0 : UInt8) (t tn ty e : TypeId) (kn : IntKind) (ht : P.underlying t = some (.slice e)) (htn : P.underlying tn = some (.int kn)) (hi : ByteInfo P e) (hrow : Row w g e #[byteV c0])
    (n : Nat) (hm : n ≤ 1000000) :
    ∃ ad c w', (Builtin.append_ #[t, tn] ty #[.slice (some ⟨g, 0, none⟩) 1 1, .int kn n]).run P w = .ok (.slice (some ad) (1 + n) c) w' ∧ Rd w' (some ad) (c0 :: List.replicate n (0 : UInt8)) ∧ 1 + n ≤ c ∧ c ≤ maxLen ∧ Later w w' ∧ (ad.block = g ∨ ad.block = w.heap.size) := by
  obtain ⟨i, hi0, hz, hs, hb⟩ := info_parts hi
  rcases Nat.eq_zero_or_pos n with rfl | h0
  · refine ⟨⟨g, 0, none⟩, 1, w, ?_, ?_, by omega, by unfold maxLen; omega, Later.refl w, .inl rfl⟩
    · have hw : IntKind.i64.wrap (((0 : Nat) : Int)) = 0 := by decide
      simp [Builtin.append_, run_underlying ht, run_underlying htn, sizeOf, typeInfo, zeroValue, hi0, hz, hs, hb, asInt, asIntOf, storeCells]
      rfl
    · exact fun _ => ⟨g, 0, rfl, fun i hi' => by
        rw [hrow.cell]
        have : i = 0 := by simpa using hi'
        subst this
        rfl⟩
  · obtain ⟨cap, hcap, hcm, hrun⟩ := run_append_zeros1 w g c0 t tn ty e kn ht htn hi hrow n h0 hm
    refine ⟨_, _, _, hrun, ?_, hcap, hcm, ((Later.refl w).drew).alloc _, .inr rfl⟩
    rw [zeroCells_list, zeroCells_list]
    have e : #[byteV c0] ++ ((List.replicate n (0 : UInt8)).map byteV).toArray ++ ((List.replicate (cap - (1 + n)) (0 : UInt8)).map byteV).toArray = ((c0 :: List.replicate n (0 : UInt8)).map byteV ++ (List.replicate (cap - (1 + n)) (0 : UInt8)).map byteV).toArray := by simp
    rw [e]
    refine fun _ => ⟨w.heap.size, 0, rfl, fun i hi' => ?_⟩
    rw [show w.heap.size = w.drew.heap.size from rfl, (Row.new w.drew _ _).cell, Nat.zero_add, List.getElem?_toArray, List.getElem?_append_left (by simpa using hi'), List.getElem?_map, List.getElem?_eq_getElem hi']
    rfl
end Go.Proofs.YthabgfghogdkcaaDoor
namespace Go.Proofs.YthabgfghogdkcaaDoor
open Go.RowKit
theorem setFrom_mid (pre mid post vs : List Value) (o : Nat) (ho : pre.length = o) (h : vs.length = mid.length) : setFrom (pre ++ (mid ++ post)).toArray o vs = (pre ++ (vs ++ post)).toArray := by
  subst ho
  apply Array.ext_getElem?
  intro i
  rw [setFrom_get _ _ _ _ (by simp; omega), List.getElem?_toArray, List.getElem?_toArray]
  by_cases h1 : i < pre.length
  · rw [if_neg (by omega), List.getElem?_append_left h1, List.getElem?_append_left h1]
  · have hl : ∀ m : List Value, (pre ++ (m ++ post))[i]? = (m ++ post)[i - pre.length]? := fun m => List.getElem?_append_right (by omega)
    rw [hl mid, hl vs]
    by_cases h2 : i < pre.length + vs.length
    · rw [if_pos (by omega), List.getElem?_append_left (by omega)]
    · rw [if_neg (by omega), List.getElem?_append_right (l₁ := vs) (by omega), List.getElem?_append_right (l₁ := mid) (by omega), h]
def runC (x : Sha.St) (p : List UInt8) (n : Nat) : Array Value := (x.list.map wordV ++ (p.map byteV ++ [intV n, .bool true])).toArray
theorem stl (x : Sha.St) : (x.list.map wordV).length = 8 := rfl
theorem runC_size (x : Sha.St) (p : List UInt8) (n : Nat) (hp : p.length = 64) : (runC x p n).size = 74 := by simp [runC, hp, Sha.St.list]
theorem runC_st (x y : Sha.St) (p : List UInt8) (n : Nat) : setFrom (runC x p n) 0 (y.list.map wordV) = runC y p n := by
  have := setFrom_mid [] (x.list.map wordV) (p.map byteV ++ [intV n, .bool true]) (y.list.map wordV) 0 rfl rfl
  simpa [runC] using this
theorem runC_part (x : Sha.St) (p b : List UInt8) (n at_ : Nat) (hp : p.length = 64) (h : at_ + b.length ≤ 64) : setFrom (runC x p n) (8 + at_) (b.map byteV) = runC x (p.take at_ ++ (b ++ p.drop (at_ + b.length))) n := by
  have e : p = p.take at_ ++ ((p.drop at_).take b.length ++ p.drop (at_ + b.length)) := by
    rw [← List.drop_drop, List.take_append_drop, List.take_append_drop]
  have := setFrom_mid (x.list.map wordV ++ (p.take at_).map byteV) (((p.drop at_).take b.length).map byteV) ((p.drop (at_ + b.length)).map byteV ++ [intV n, .bool true]) (b.map byteV) (8 + at_)
    (by rw [List.length_append, stl, List.length_map, List.length_take]; omega) (by simp only [List.length_map, List.length_take, List.length_drop]; omega)
  unfold runC
  conv => lhs; rw [e]
  simp only [List.map_append, List.append_assoc] at this ⊢
  exact this
theorem runC_came (x : Sha.St) (p : List UInt8) (n m : Nat) (hp : p.length = 64) : (runC x p n).setIfInBounds 72 (intV m) = runC x p m := by
  have := setFrom_mid (x.list.map wordV ++ p.map byteV) [intV n] [.bool true] [intV m] 72 (by rw [List.length_append, stl, List.length_map, hp]) rfl
  simp only [List.append_assoc, List.cons_append, List.nil_append] at this
  exact this
theorem runC_get72 (x : Sha.St) (p : List UInt8) (n : Nat) (hp : p.length = 64) : (runC x p n)[72]? = some (.int .i64 (n : Int)) := by
  unfold runC
  rw [List.getElem?_toArray, List.getElem?_append_right (by rw [stl]; omega), List.getElem?_append_right (by rw [stl, List.length_map]; omega), stl, List.length_map, hp]
  rfl
theorem runC_get73 (x : Sha.St) (p : List UInt8) (n : Nat) (hp : p.length = 64) : (runC x p n)[73]? = some (.bool true) := by
  unfold runC
  rw [List.getElem?_toArray, List.getElem?_append_right (by rw [stl]; omega), List.getElem?_append_right (by rw [stl, List.length_map]; omega), stl, List.length_map, hp]
  rfl
theorem runC_state (x : Sha.St) (p : List UInt8) (n : Nat) (i : Nat) (h : i < 8) : (runC x p n)[0 + i]? = some (wordV (x.get i)) := by
  unfold runC
  rw [Nat.zero_add, List.getElem?_toArray, List.getElem?_append_left (by rw [stl]; exact h), list_get x i h]
theorem runC_rd {w : World} {g : Nat} {T : TypeId} {x : Sha.St} {p : List UInt8} {n : Nat} (hp : p.length = 64) (h : Row w g T (runC x p n)) : Rd w (some ⟨g, 8, none⟩) p := fun _ =>
  ⟨g, 8, rfl, fun i hi => by
    rw [h.cell]
    unfold runC
    rw [List.getElem?_toArray, List.getElem?_append_right (by rw [stl]; omega), stl, show 8 + i - 8 = i from by omega, List.getElem?_append_left (by rw [List.length_map]; exact hi), List.getElem?_map, List.getElem?_eq_getElem hi]
    rfl⟩
theorem runC_one (x : Sha.St) (p : List UInt8) (n : Nat) : (runC x p n).all (·.oneCell') = true := by
  rw [Array.all_eq_true_iff_forall_mem]
  intro v hv
  unfold runC at hv
  rw [List.mem_toArray, List.mem_append, List.mem_append] at hv
  rcases hv with hv | hv | hv
  · obtain ⟨i, hi, rfl⟩ := List.mem_map.1 hv; rfl
  · obtain ⟨i, hi, rfl⟩ := List.mem_map.1 hv; rfl
  · simp at hv
    rcases hv with rfl | rfl <;> rfl
/-- A sum under way, to which these bytes came. -/
def IsRun (w : World) (g : Nat) (l : List UInt8) : Prop := ∃ p, p.length = 64 ∧ p.take (l.length % 64) = Sha.left l ∧ Row w g 127 (runC (Sha.state l) p l.length)
theorem IsRun.lt {w : World} {g : Nat} {l : List UInt8} (h : IsRun w g l) : g < w.heap.size := by
  obtain ⟨p, _, _, hr⟩ := h
  exact hr.lt
theorem IsRun.later {w w' : World} {g : Nat} {l : List UInt8} (h : IsRun w g l) (hL : Later w w') : IsRun w' g l := by
  obtain ⟨p, h1, h2, hr⟩ := h
  exact ⟨p, h1, h2, hr.later hL⟩
theorem IsRun.grown {w w' : World} {g : Nat} {l : List UInt8} {row : Option Nat} (h : IsRun w g l) (hg : w.grownBy w' row) (hn : some g ≠ row) : IsRun w' g l := by
  obtain ⟨p, h1, h2, hr⟩ := h
  exact ⟨p, h1, h2, hr.grown hg hn⟩
end Go.Proofs.YthabgfghogdkcaaDoor
