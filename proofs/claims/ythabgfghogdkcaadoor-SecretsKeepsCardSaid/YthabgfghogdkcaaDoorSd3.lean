/- Walks, secrets: a keep is gone over (All). -/
import Derived.Test.YthabgfghogdkcaaDoorSd2
set_option linter.unusedVariables false
set_option linter.unusedSimpArgs false
namespace Go.Proofs.YthabgfghogdkcaaDoor
open Go.RowKit
attribute [local go_sem] Oper.semAt_some
section
variable {F : Fence} {n : Nat} {P : Program} {w : World} {ops : Array Oper} {rest : List Oper} {o : Oper} {a : Act} {Q : Exit → Act → World → Prop}
theorem wpListIn_load (hgd : o.guard = none) (T : TypeId) (x : Operand) (ho : o.op = .load T x) (vx : Value) (hx : a.eval x = vx) {v : Value} {w' : World}
    (hr : (Instr.loadAt T vx).run P w = .ok v w') (h : wpListIn F n P ops Q rest (a.put o.dst v) w') : wpListIn F n P ops Q (o :: rest) a w := by
  refine wpListIn_plain hgd fun K hK => ?_
  unfold Oper.wpIn
  refine ⟨?_, ?_⟩
  · simp [Oper.about, ho]
  · rw [Oper.semAt_plain F _ _ (by rw [ho]; intro c hc'; cases hc')]
    simp [execOp, ho, hx, hr, Result.andThen]
    exact hK _ _ h
theorem wpListIn_idx (hgd : o.guard = none) (T : TypeId) (x y : Operand) (ho : o.op = .index T x y) (vx vy : Value) (hx : a.eval x = vx) (hy : a.eval y = vy) {v : Value} {w' : World}
    (hr : (Instr.index T vx vy).run P w = .ok v w') (h : wpListIn F n P ops Q rest (a.put o.dst v) w') : wpListIn F n P ops Q (o :: rest) a w := by
  refine wpListIn_plain hgd fun K hK => ?_
  unfold Oper.wpIn
  refine ⟨?_, ?_⟩
  · simp [Oper.about, ho]
  · rw [Oper.semAt_plain F _ _ (by rw [ho]; intro c hc'; cases hc')]
    simp [execOp, ho, hx, hy, hr, Result.andThen]
    exact hK _ _ h
theorem wpListIn_allocR (hgd : o.guard = none) (T : TypeId) (ho : o.op = .alloc T) {v : Value} {w' : World} (hr : (Instr.alloc T true (.tuple #[])).run P w = .ok v w')
    (h : wpListIn F n P ops Q rest (a.put o.dst v) w') : wpListIn F n P ops Q (o :: rest) a w := by
  refine wpListIn_plain hgd fun K hK => ?_
  unfold Oper.wpIn
  refine ⟨?_, ?_⟩
  · simp [Oper.about, ho]
  · rw [Oper.semAt_plain F _ _ (by rw [ho]; intro c hc'; cases hc')]
    simp [execOp, ho, hr, Result.andThen]
    exact hK _ _ h
theorem wpListIn_storeR (hgd : o.guard = none) (T : TypeId) (x y : Operand) (ho : o.op = .store T x y) (vx vy : Value) (hx : a.eval x = vx) (hy : a.eval y = vy) {w' : World} (hr : (Instr.storeAt T vx vy).run P w = .ok () w')
    (h : wpListIn F n P ops Q rest (a.put o.dst undef) w') : wpListIn F n P ops Q (o :: rest) a w := by
  refine wpListIn_plain hgd fun K hK => ?_
  unfold Oper.wpIn
  refine ⟨?_, ?_⟩
  · simp [Oper.about, ho]
  · rw [Oper.semAt_plain F _ _ (by rw [ho]; intro c hc'; cases hc')]
    simp [execOp, ho, hx, hy, hr, Result.andThen]
    exact hK _ _ h
theorem wpListIn_buildSl (hgd : o.guard = none) (T : TypeId) (k : Nat) (fs : Array (Nat × Operand)) (ho : o.op = .buildSlice T k fs) (vs : Array (Nat × Value)) (hv : (fs.map fun (i, x) => (i, a.eval x)) = vs) {v : Value} {w' : World}
    (hr : (Instr.buildSlice T k vs).run P w = .ok v w') (h : wpListIn F n P ops Q rest (a.put o.dst v) w') : wpListIn F n P ops Q (o :: rest) a w := by
  refine wpListIn_plain hgd fun K hK => ?_
  unfold Oper.wpIn
  refine ⟨?_, ?_⟩
  · simp [Oper.about, ho]
  · rw [Oper.semAt_plain F _ _ (by rw [ho]; intro c hc'; cases hc')]
    simp [execOp, ho, hv, hr, Result.andThen]
    exact hK _ _ h
end
theorem KeepsFrom.of_later {B : Nat} {W W' : World} (h : Later W W') : KeepsFrom B W W' := ⟨h.size, fun k o _ hk _ => (Below.block h k (Array.getElem?_eq_some_iff.1 hk).1).trans hk⟩
theorem cells_of_cell {W : World} {b o : Nat} {v : Value} (h : W.cell? ⟨b, o, none⟩ = some v) : ∃ cs t fr, W.heap[b]? = some (.cells cs t fr) := by
  unfold World.cell? at h
  rcases hb : W.heap[b]? with _ | ob
  · simp [hb] at h
  · cases ob <;> simp [hb] at h
    exact ⟨_, _, _, rfl⟩
/-- All cells stay. -/
def KeepA (X Y : World) : Prop := ∀ (b : Nat) (cs : Array Value) (t : TypeId) (fr : Nat × Nat), X.heap[b]? = some (Obj.cells cs t fr) → Y.heap[b]? = X.heap[b]?
theorem KeepA.of {X Y : World} (h : ∀ (b : Nat) (cs : Array Value) (t : TypeId) (fr : Nat × Nat), X.heap[b]? = some (Obj.cells cs t fr) → Y.heap[b]? = X.heap[b]?) : KeepA X Y := h
theorem KeepA.row {X Y : World} (h : KeepA X Y) {g : Nat} {t : TypeId} {cs : Array Value} (hr : Row X g t cs) : Row Y g t cs := (h g cs t (0, 0) hr).trans hr
theorem KeepA.later {X Y : World} (h : Later X Y) : KeepA X Y := KeepA.of fun b cs t fr hb => Below.block h b (Array.getElem?_eq_some_iff.1 hb).1
theorem KeepA.same {X Y : World} (h : Same (fun k => k < X.heap.size) X Y) : KeepA X Y := KeepA.of fun b cs t fr hb => h.block b (Array.getElem?_eq_some_iff.1 hb).1
theorem stab_all {β : Type} {B : Nat} {I : β → World → Prop} (h : ∀ s X Y, KeepA X Y → I s X → I s Y) : Stab B (fun _ => False) I := fun s X Y row hs hg hr => h s X Y (KeepA.of fun b cs t fr hb => hg.block b (Array.getElem?_eq_some_iff.1 hb).1 (fun e => by
  rcases hr b e.symm with h | ⟨_, o, ho, hc⟩
  · exact h
  · rw [hb] at ho
    cases ho
    cases hc)) hs
/-- A block of cells stays. -/
def KeepR (g : Nat) (X Y : World) : Prop := ∀ t cs, Row X g t cs → Row Y g t cs
theorem KeepR.trans {g : Nat} {A B D : World} (h : KeepR g A B) (k : KeepR g B D) : KeepR g A D := fun t cs hr => k t cs (h t cs hr)
theorem KeepR.put {g : Nat} (W : World) (l : Nat) (o ob : Obj) (hl : W.heap[l]? = some ob) (hc : ob.isCells = false) : KeepR g W (W.putObj l o) := fun t cs hr =>
  (World.putObj_heap_other (by
    intro e
    subst e
    have hr' : W.heap[g]? = _ := hr
    rw [hl] at hr'
    cases hr'
    cases hc)).trans hr
theorem KeepR.later {g : Nat} {X Y : World} (h : Later X Y) : KeepR g X Y := fun t cs hr => hr.later h
/-- What a keep tells when gone over: each place that has something. -/
abbrev kpE (x : Int × List UInt8) : Array Value := #[.int .i64 x.1, .agg (hC x.2)]
def Sec.items (c : Nat) (ix : Nat → Nat) (sc : Nat → List UInt8) (k : Nat) : List (Int × List UInt8) := ((List.range k).filter (Sec.hasB c)).map fun p => (2147483647 - (ix p : Int), sc p)
theorem Sec.items_yes {c : Nat} {ix : Nat → Nat} {sc : Nat → List UInt8} {k : Nat} (h : Sec.hasB c k = true) : Sec.items c ix sc (k + 1) = Sec.items c ix sc k ++ [(2147483647 - (ix k : Int), sc k)] := by
  unfold Sec.items
  rw [List.range_succ, List.filter_append, List.map_append]
  simp [h]
theorem Sec.items_no {c : Nat} {ix : Nat → Nat} {sc : Nat → List UInt8} {k : Nat} (h : Sec.hasB c k = false) : Sec.items c ix sc (k + 1) = Sec.items c ix sc k := by
  unfold Sec.items
  rw [List.range_succ, List.filter_append, List.map_append]
  simp [h]
theorem infoPl : (Tryd.prog.info? 58).map (·.size) = some 1056 := by kernel_rfl
theorem isAggP : (isAgg 57).run Tryd.prog = fun w => .ok true w := by kernel_rfl
theorem sizeP : (sizeOf 57).run Tryd.prog = fun w => .ok 33 w := by kernel_rfl
theorem idxPlace {pc : Array Value} {p i : Nat} {s : List UInt8} (hp : p < 32) (hs : s.length ≤ 32) (h : ∀ j, j < 33 → pc[33 * p + j]? = (ptC i s)[j]?) (W : World) : (Instr.index 58 (.agg pc) (.int .i64 (p : Int))).run Tryd.prog W = .ok (.agg (ptC i s)) W := by
  have h1 : (p : Int) < 32 := by omega
  have h2 : (0 : Int) ≤ (p : Int) := by omega
  have hz := ptC_size i s hs
  have e : pc.extract (p * 33) (p * 33 + 33) = ptC i s := by
    have hlt : 33 * p + 32 < pc.size := by
      rcases Nat.lt_or_ge (33 * p + 32) pc.size with h3 | h3
      · exact h3
      · have := h 32 (by decide)
        rw [Array.getElem?_eq_none h3, Array.getElem?_eq_getElem (by rw [hz]; decide)] at this
        cases this
    apply Array.ext_getElem?
    intro j
    rw [Array.getElem?_extract]
    by_cases hj : j < 33
    · rw [if_pos (by omega), show p * 33 + j = 33 * p + j from by omega, h j hj]
    · rw [if_neg (by omega), Array.getElem?_eq_none (by rw [hz]; omega)]
  have hA := congrFun isAggP W
  have hS := congrFun sizeP W
  simp [Instr.index, run_underlying Tryd.underlying58, asIntOf, h1, h2, part, hA, hS, e]
  exact fun h3 => absurd h3 (by omega)
end Go.Proofs.YthabgfghogdkcaaDoor
