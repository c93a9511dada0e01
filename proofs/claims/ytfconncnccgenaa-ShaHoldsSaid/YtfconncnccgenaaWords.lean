/- Words for memory, over any program: a block that is known whole, a slice of bytes that reads as a list, a slice of such slices; what keeps them; small laws of single operations. -/
import Derived.WalkKit
import Derived.WalkSpells
import Derived.Deep.MidRow
import Derived.Deep.WholeRow
import Derived.Deep.Draws
import Derived.Maps.AppendAt
namespace Go.Proofs.Ytfconncnccgenaa
open Go.RowKit

/- a block that is known whole -/
def Row (w : World) (g : Nat) (t : TypeId) (cs : Array Value) : Prop := w.heap[g]? = some (.cells cs t (0, 0))

section
variable {w w' : World} {g : Nat} {t : TypeId} {cs : Array Value}
theorem Row.lt (h : Row w g t cs) : g < w.heap.size := (Array.getElem?_eq_some_iff.1 h).1
theorem Row.cell (h : Row w g t cs) (i : Nat) : w.cell? ⟨g, i, none⟩ = cs[i]? := cell_of_row w g i cs t (0, 0) h
theorem Row.frozen (h : Row w g t cs) (i : Nat) : w.frozen? ⟨g, i, none⟩ = false := frozen_of_row w g i cs t h
theorem Row.new (w : World) (t : TypeId) (cs : Array Value) : Row (w.alloc (.cells cs t)) w.heap.size t cs := heap_alloc_new w _
theorem Row.alloc (h : Row w g t cs) (o : Obj) : Row (w.alloc o) g t cs := (Below.heap_alloc w o g h.lt).trans h
theorem Row.drewN (h : Row w g t cs) (n : Nat) : Row (w.drewN n) g t cs := h
theorem Row.drew (h : Row w g t cs) : Row w.drew g t cs := h
theorem Row.set (h : Row w g t cs) (i : Nat) (u : Value) : Row (w.setCell ⟨g, i, none⟩ u) g t (cs.setIfInBounds i u) := heap_setCell_same w g i cs t u h
theorem Row.far (h : Row w g t cs) {p : Addr} (hp : g ≠ p.block) (u : Value) : Row (w.setCell p u) g t cs := (heap_setCell_other w p g u hp).trans h
theorem Row.below {B : Nat} (h : Row w g t cs) (hb : Below B w w') (hg : g < B) : Row w' g t cs := (hb.block g hg).trans h
theorem Row.belowAll (h : Row w g t cs) (hb : Below w.heap.size w w') : Row w' g t cs := h.below hb h.lt
theorem Row.grown {row : Option Nat} (h : Row w g t cs) (hb : w.grownBy w' row) (hg : some g ≠ row) : Row w' g t cs := (hb.block g h.lt hg).trans h
end

theorem grown_refl (w : World) (row : Option Nat) : w.grownBy w row := ⟨rfl, rfl, rfl, Nat.le_refl _, fun _ _ _ => rfl⟩
theorem grown_trans {a b c : World} {row : Option Nat} (h : a.grownBy b row) (k : b.grownBy c row) : a.grownBy c row :=
  ⟨k.os.trans h.os, k.tape.trans h.tape, k.output.trans h.output, Nat.le_trans h.size k.size, fun i hi hn => (k.block i (Nat.lt_of_lt_of_le hi h.size) hn).trans (h.block i hi hn)⟩
theorem grown_set (w : World) (g i : Nat) (u : Value) : w.grownBy (w.setCell ⟨g, i, none⟩ u) (some g) :=
  ⟨rfl, rfl, rfl, by simp [World.setCell], fun k _ hn => heap_setCell_other w _ k u (fun e => hn (by rw [e]))⟩
theorem grown_drew {a b : World} {row : Option Nat} (h : a.grownBy b row) : a.grownBy b.drew row := ⟨h.os, h.tape, h.output, h.size, h.block⟩
theorem grown_drewN {a b : World} {row : Option Nat} (h : a.grownBy b row) (n : Nat) : a.grownBy (b.drewN n) row := ⟨h.os, h.tape, h.output, h.size, h.block⟩
theorem below_of_grown {w w' : World} {g B : Nat} (h : w.grownBy w' (some g)) (hB : B ≤ g) (hs : B ≤ w.heap.size) : Below B w w' :=
  ⟨h.os, h.tape, h.output, h.size, fun k hk => h.block k (by omega) (fun e => by injection e; omega)⟩

/- bytes -/
abbrev byteV (c : UInt8) : Value := .int .u8 (c.toNat : Int)
/-- A slice's address, with as many elements as the list has: it reads as these bytes. -/
def Rd (w : World) (A : Option Addr) (l : List UInt8) : Prop :=
  l ≠ [] → ∃ b o, A = some ⟨b, o, none⟩ ∧ ∀ i (h : i < l.length), w.cell? ⟨b, o + i, none⟩ = some (byteV l[i])

section
variable {w w' : World} {A : Option Addr} {l : List UInt8}
theorem Rd.nil (w : World) (A : Option Addr) : Rd w A [] := fun h => absurd rfl h
theorem Rd.keep (h : Rd w A l) (hk : ∀ b, (∃ o v, w.cell? ⟨b, o, none⟩ = some v) → w'.heap[b]? = w.heap[b]?) : Rd w' A l := fun hl => by
  obtain ⟨b, o, e, hc⟩ := h hl
  refine ⟨b, o, e, fun i hi => ?_⟩
  rw [World.cell?_of_block (w := w) (hk b ⟨o + i, _, hc i hi⟩)]
  exact hc i hi
theorem Rd.below (h : Rd w A l) (hb : Below w.heap.size w w') : Rd w' A l := h.keep fun b ⟨_, _, hc⟩ => hb.block b (block_lt_of_cell hc)
theorem Rd.alloc (h : Rd w A l) (o : Obj) : Rd (w.alloc o) A l := h.keep fun b ⟨_, _, hc⟩ => Below.heap_alloc w o b (block_lt_of_cell hc)
theorem Rd.drewN (h : Rd w A l) (n : Nat) : Rd (w.drewN n) A l := h
theorem Rd.drew (h : Rd w A l) : Rd w.drew A l := h
theorem Rd.at_ (h : Rd w A l) {k : Nat} (hk : k < l.length) : ∃ b o, A = some ⟨b, o, none⟩ ∧ w.cell? ⟨b, o + k, none⟩ = some (byteV l[k]) := by
  obtain ⟨b, o, e, hc⟩ := h (by intro e; subst e; simp at hk)
  exact ⟨b, o, e, hc k hk⟩
end

/-- A slice of such slices. -/
def Rds (w : World) (A : Option Addr) (ls : List (List UInt8)) : Prop :=
  ls ≠ [] → ∃ b o, A = some ⟨b, o, none⟩ ∧ ∀ i (h : i < ls.length), ∃ Ai ci, w.cell? ⟨b, o + i, none⟩ = some (.slice Ai ls[i].length ci) ∧ Rd w Ai ls[i]
section
variable {w w' : World} {A : Option Addr} {ls : List (List UInt8)}
theorem Rds.nil (w : World) (A : Option Addr) : Rds w A [] := fun h => absurd rfl h
theorem Rds.keep (h : Rds w A ls) (hk : ∀ b, (∃ o v, w.cell? ⟨b, o, none⟩ = some v) → w'.heap[b]? = w.heap[b]?) : Rds w' A ls := fun hl => by
  obtain ⟨b, o, e, hc⟩ := h hl
  refine ⟨b, o, e, fun i hi => ?_⟩
  obtain ⟨Ai, ci, h1, h2⟩ := hc i hi
  refine ⟨Ai, ci, ?_, h2.keep hk⟩
  rw [World.cell?_of_block (w := w) (hk b ⟨o + i, _, h1⟩)]
  exact h1
theorem Rds.below (h : Rds w A ls) (hb : Below w.heap.size w w') : Rds w' A ls := h.keep fun b ⟨_, _, hc⟩ => hb.block b (block_lt_of_cell hc)
theorem Rds.alloc (h : Rds w A ls) (o : Obj) : Rds (w.alloc o) A ls := h.keep fun b ⟨_, _, hc⟩ => Below.heap_alloc w o b (block_lt_of_cell hc)
theorem Rds.at_ (h : Rds w A ls) {k : Nat} (hk : k < ls.length) : ∃ b o Ai ci, A = some ⟨b, o, none⟩ ∧ w.cell? ⟨b, o + k, none⟩ = some (.slice Ai ls[k].length ci) ∧ Rd w Ai ls[k] := by
  obtain ⟨b, o, e, hc⟩ := h (by intro e; subst e; simp at hk)
  obtain ⟨Ai, ci, h1, h2⟩ := hc k hk
  exact ⟨b, o, Ai, ci, e, h1, h2⟩
theorem Rd.lt {A : Option Addr} {l : List UInt8} (h : Rd w A l) {b o : Nat} (e : A = some ⟨b, o, none⟩) (hl : l ≠ []) : b < w.heap.size := by
  obtain ⟨b', o', e', hc⟩ := h hl
  rw [e] at e'
  injection e' with e'
  injection e' with e1 e2
  have hlen : 0 < l.length := List.length_pos_iff.2 hl
  rw [e1]
  exact block_lt_of_cell (hc 0 hlen)
end

/- single operations of a plain region, each by the equation of its own run -/
section
variable {P : Program} {ops : Array Oper} {rest : List Oper} {o : Oper} {a : Act} {w : World} {Q : Exit → Act → World → Prop}
theorem wpList_alloc (hgd : o.guard = none) (T : TypeId) (ho : o.op = .alloc T) {v : Value} {w' : World} (hr : (Instr.alloc T true (.tuple #[])).run P w = .ok v w')
    (h : wpList P ops Q rest (a.put o.dst v) w') : wpList P ops Q (o :: rest) a w :=
  wpList_plain hgd fun _ hK => by
    unfold Oper.wp execOp
    simp only [ho, Sem.run_bind, Sem.run_pure, Result.andThen_ok, hr]
    exact hK _ _ h
theorem wpList_build1 (hgd : o.guard = none) (T : TypeId) (i : Nat) (x : Operand) (ho : o.op = .build T #[(i, x)]) (vx : Value) (hx : a.eval x = vx)
    {v : Value} {w' : World} (hr : (Instr.build T #[(i, vx)]).run P w = .ok v w')
    (h : wpList P ops Q rest (a.put o.dst v) w') : wpList P ops Q (o :: rest) a w :=
  wpList_plain hgd fun _ hK => by
    unfold Oper.wp execOp
    simp only [ho, Sem.run_bind, Sem.run_pure, Result.andThen_ok, List.map_toArray, List.map_cons, List.map_nil, hx, hr]
    exact hK _ _ h
theorem wpList_build2 (hgd : o.guard = none) (T : TypeId) (i j : Nat) (x y : Operand) (ho : o.op = .build T #[(i, x), (j, y)]) (vx vy : Value) (hx : a.eval x = vx) (hy : a.eval y = vy)
    {v : Value} {w' : World} (hr : (Instr.build T #[(i, vx), (j, vy)]).run P w = .ok v w')
    (h : wpList P ops Q rest (a.put o.dst v) w') : wpList P ops Q (o :: rest) a w :=
  wpList_plain hgd fun _ hK => by
    unfold Oper.wp execOp
    simp only [ho, Sem.run_bind, Sem.run_pure, Result.andThen_ok, List.map_toArray, List.map_cons, List.map_nil, hx, hy, hr]
    exact hK _ _ h
theorem wpList_binop (hgd : o.guard = none) (b : BinOp) (T U : TypeId) (x y : Operand) (ho : o.op = .binOp b T x y U) (vx vy : Value) (hx : a.eval x = vx) (hy : a.eval y = vy)
    (he : (eqGuard b T x y vx vy).run P w = .ok () w) {v : Value} (hr : (binOp b T vx vy).run P w = .ok v w)
    (h : wpList P ops Q rest (a.put o.dst v) w) : wpList P ops Q (o :: rest) a w :=
  wpList_plain hgd fun _ hK => by
    unfold Oper.wp execOp
    simp only [ho, Sem.run_bind, Sem.run_pure, Result.andThen_ok, hx, hy, he, hr]
    exact hK _ _ h
theorem wpList_load (hgd : o.guard = none) (T : TypeId) (x : Operand) (ho : o.op = .load T x) (vx : Value) (hx : a.eval x = vx) {v : Value} {w' : World} (hr : (Instr.loadAt T vx).run P w = .ok v w')
    (h : wpList P ops Q rest (a.put o.dst v) w') : wpList P ops Q (o :: rest) a w :=
  wpList_plain hgd fun _ hK => by
    unfold Oper.wp execOp
    simp only [ho, Sem.run_bind, Sem.run_pure, Result.andThen_ok, hx, hr]
    exact hK _ _ h
theorem wpList_store (hgd : o.guard = none) (T : TypeId) (x y : Operand) (ho : o.op = .store T x y) (vx vy : Value) (hx : a.eval x = vx) (hy : a.eval y = vy) {w' : World} (hr : (Instr.storeAt T vx vy).run P w = .ok () w')
    (h : wpList P ops Q rest (a.put o.dst undef) w') : wpList P ops Q (o :: rest) a w :=
  wpList_plain hgd fun _ hK => by
    unfold Oper.wp execOp
    simp only [ho, Sem.run_bind, Sem.run_pure, Result.andThen_ok, hx, hy, hr]
    exact hK _ _ h
end

/-- An array with a list's values from a place on. -/
def setFrom : Array Value → Nat → List Value → Array Value
  | cs, _, [] => cs
  | cs, o, v :: vs => setFrom (cs.setIfInBounds o v) (o + 1) vs
theorem setFrom_size (vs : List Value) : ∀ (o : Nat) (cs : Array Value), (setFrom cs o vs).size = cs.size := by
  induction vs with
  | nil => intro o cs; rfl
  | cons v vs ih => intro o cs; rw [setFrom, ih]; simp
theorem setFrom_get (vs : List Value) : ∀ (o : Nat) (cs : Array Value) (i : Nat), o + vs.length ≤ cs.size →
    (setFrom cs o vs)[i]? = if o ≤ i ∧ i < o + vs.length then vs[i - o]? else cs[i]? := by
  induction vs with
  | nil => intro o cs i _; rw [if_neg (by simp)]; rfl
  | cons v vs ih =>
    intro o cs i hl
    simp only [List.length_cons] at hl
    rw [setFrom, ih (o + 1) _ i (by simp; omega)]
    simp only [List.length_cons]
    by_cases h1 : o + 1 ≤ i ∧ i < o + 1 + vs.length
    · rw [if_pos h1, if_pos (by omega), show i - o = (i - (o + 1)) + 1 by omega, List.getElem?_cons_succ]
    · rw [if_neg h1, Array.getElem?_setIfInBounds]
      by_cases h2 : o = i
      · subst h2; rw [if_pos rfl, if_pos (by omega), if_pos (by omega)]; simp
      · rw [if_neg h2, if_neg (by omega)]
theorem setFrom_whole (vs : List Value) (cs : Array Value) (h : vs.length = cs.size) : setFrom cs 0 vs = vs.toArray := by
  apply Array.ext_getElem?
  intro i
  rw [setFrom_get vs 0 cs i (by omega)]
  by_cases h1 : i < vs.length
  · rw [if_pos (by omega)]; simp
  · rw [if_neg (by omega)]
    rw [Array.getElem?_eq_none (by omega), Array.getElem?_eq_none (by simp; omega)]
theorem row_setCells {t : TypeId} {g : Nat} (vs : List Value) : ∀ (o : Nat) (w : World) (cs : Array Value), Row w g t cs → Row (w.setCells g o vs) g t (setFrom cs o vs) := by
  induction vs with
  | nil => intro o w cs h; exact h
  | cons v vs ih => intro o w cs h; exact ih (o + 1) _ _ (h.set o v)
theorem grown_setCells {g : Nat} (vs : List Value) : ∀ (o : Nat) (w : World), w.grownBy (w.setCells g o vs) (some g) := by
  induction vs with
  | nil => intro o w; exact grown_refl w _
  | cons v vs ih => intro o w; exact grown_trans (grown_set w g o v) (ih (o + 1) _)
theorem Row.there {w : World} {g : Nat} {t : TypeId} {cs : Array Value} (h : Row w g t cs) (o n : Nat) (hn : o + n ≤ cs.size) : w.there g o n := fun j hj => by
  refine ⟨?_, h.frozen _⟩
  rw [h.cell, Array.getElem?_eq_getElem (by omega)]; rfl
theorem Row.range {w : World} {g : Nat} {t : TypeId} {cs : Array Value} (h : Row w g t cs) (o : Nat) (vs : List Value) (hv : ∀ j v, vs[j]? = some v → cs[o + j]? = some v) : w.rangeAt g o vs := fun j v e => by
  rw [h.cell]; exact hv j v e
/-- A whole variable that lies in a known block, stored. -/
theorem run_store_row {P : Program} {w : World} {g o : Nat} {t T : TypeId} {cs : Array Value} (h : Row w g t cs) (vs : Array Value) (hi : (P.info? T).map (·.size) = some vs.size) (hn : o + vs.size ≤ cs.size)
    (h1 : vs.all (·.oneCell') = true) : (Instr.storeAt T (.pointer (some ⟨g, o, none⟩)) (.agg vs)).run P w = .ok () (w.setCells g o vs.toList) :=
  run_storeAt_mid w g o T vs (h.there o _ hn) hi h1

end Go.Proofs.Ytfconncnccgenaa
