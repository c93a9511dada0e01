/- Walks, route: small parts of the document's Plan. -/
import Derived.Test.YtloiaaolnfimgaaGreatRk14
set_option linter.unusedVariables false
set_option linter.unusedSimpArgs false
namespace Go.Proofs.YtloiaaolnfimgaaGreat
open Go.RowKit Rt
theorem results_ctt {P : Program} {fn : Func} {p q r : Tmp} {ty : TypeId} (h : fn.results = #[.cell p ty, .tmp q, .tmp r]) (tmps : Array Value) (w : World) (g : Nat) (t : TypeId) (cs : Array Value) (d : TypeDesc) (v x : Value)
    (hp : tmps.getD p undef = .pointer (some ⟨g, 0, none⟩)) (hq : tmps.getD q undef = v) (hr : tmps.getD r undef = x) (hg : Row w g t cs)
    (hu : P.underlying ty = some d) (hd : (match d with | .struct _ | .array _ _ => true | _ => false) = true) (hi : (P.info? ty).map (·.size) = some cs.size) :
    (results fn tmps).run P w = .ok (.tuple #[.agg cs, v, x]) w := by
  have hp' : tmps[p]?.getD undef = .pointer (some ⟨g, 0, none⟩) := by simpa using hp
  have hq' : tmps[q]?.getD undef = v := by simpa using hq
  have hr' : tmps[r]?.getD undef = x := by simpa using hr
  simp [results, h, hp', hq', hr', asAddr, run_loadVar_row w g t ty cs (0, 0) d hg hu hd hi]
theorem cmpL {P : Program} {T : TypeId} {x y : Int} {b : Bool} {W : World} (h : decide (x < y) = b) : (binOp .lss T (.int .i64 x) (.int .i64 y)).run P W = .ok (.bool b) W := by subst h; kernel_rfl
theorem cmpG {P : Program} {T : TypeId} {x y : Int} {b : Bool} {W : World} (h : decide (y < x) = b) : (binOp .gtr T (.int .i64 x) (.int .i64 y)).run P W = .ok (.bool b) W := by subst h; kernel_rfl
/-- The expiries from i on. -/
def expsA (x : Int) (l : List Rt.Edge) (i : Nat) : Array Value := ((List.range l.length).map fun p => numV (if i ≤ p then expAt x l p else 0)).toArray
theorem expsA_size (x : Int) (l : List Rt.Edge) (i : Nat) : (expsA x l i).size = l.length := by simp [expsA]
theorem expsA_none (x : Int) (l : List Rt.Edge) : ((List.replicate l.length (0 : Int)).map numV).toArray = expsA x l l.length := by
  unfold expsA
  congr 1
  apply List.ext_getElem
  · simp
  · intro p h1 h2
    simp at h1
    simp
    intro h
    omega
theorem expsA_get (x : Int) (l : List Rt.Edge) (i p : Nat) (h : p < l.length) (hip : i ≤ p) : (expsA x l i)[p]? = some (numV (expAt x l p)) := by
  simp [expsA, h, hip]
theorem expsA_set (x : Int) (l : List Rt.Edge) (i : Nat) (h : i < l.length) : (expsA x l (i + 1)).setIfInBounds i (numV (expAt x l i)) = expsA x l i := by
  apply Array.ext_getElem?
  intro p
  rw [Array.getElem?_setIfInBounds]
  by_cases hp : p < l.length
  · by_cases hi : i = p
    · subst hi
      rw [if_pos rfl, if_pos (by rw [expsA_size]; exact h), expsA_get x l i i h (Nat.le_refl _)]
    · rw [if_neg hi]
      simp only [expsA, List.getElem?_toArray, List.getElem?_map, List.getElem?_range hp, Option.map_some]
      congr 2
      by_cases h2 : i ≤ p
      · rw [if_pos h2, if_pos (by omega)]
      · rw [if_neg h2, if_neg (by omega)]
  · rw [if_neg (by omega), Array.getElem?_eq_none (by rw [expsA_size]; omega), Array.getElem?_eq_none (by rw [expsA_size]; omega)]
theorem buildHopF0 (f g : Nat → Value) (a x : Int) (w : World) : (Instr.build 27 #[(0, .agg ((List.range 32).map f).toArray), (1, .agg ((List.range 32).map g).toArray), (2, .int .i64 a), (3, .int .i64 x)]).run Tryz.prog w = .ok (.agg ((List.range 32).map f ++ (List.range 32).map g ++ [Value.int .i64 a, Value.int .i64 x]).toArray) w := by kernel_rfl
theorem buildHopF {h : Hop} (hw : h.wf) (w : World) : (Instr.build 27 #[(0, .agg (hC h.key)), (1, .agg (hC h.next)), (2, .int .i64 h.amt), (3, .int .i64 h.exp)]).run Tryz.prog w = .ok (.agg (hopC h)) w := by
  have h1 := arr_range (hC h.key) 32 (hC_size h.key (Nat.le_of_eq hw.1))
  have h2 := arr_range (hC h.next) 32 (hC_size h.next (Nat.le_of_eq hw.2))
  unfold hopC
  rw [h1, h2]
  exact buildHopF0 _ _ _ _ w
theorem loadHashM {w : World} {b o : Nat} {k : List UInt8} (hk : k.length = 32) (hr : w.rangeAt b o (hC k).toList) : (Instr.loadAt 25 (.pointer (some ⟨b, o, none⟩))).run Tryz.prog w = .ok (.agg (hC k)) w := by
  have := run_loadAt_mid (P := Tryz.prog) w b o 25 (hC k).toList _ hr Tryz.underlying25 rfl (by rw [Array.length_toList, hC_size k (by omega)]; exact infoH)
  rwa [Array.toArray_toList] at this
theorem edge_key {w : World} {b o : Nat} {e : Rt.Edge} (hw : e.wf) (hr : w.rangeAt b o (edgeL e)) : w.rangeAt b o (hC e.key).toList := fun j v hv => by
  refine hr j v ?_
  have hj : j < 32 := by
    have := (List.getElem?_eq_some_iff.1 hv).1
    rwa [Array.length_toList, hC_size e.key (Nat.le_of_eq hw.1)] at this
  rw [Array.getElem?_toList] at hv ⊢
  rw [edgeC_key hw j hj, hv]
theorem edge_chan {w : World} {b o : Nat} {e : Rt.Edge} (hw : e.wf) (hr : w.rangeAt b o (edgeL e)) : w.rangeAt b (o + 32) (hC e.chan).toList := fun j v hv => by
  have hj : j < 32 := by
    have := (List.getElem?_eq_some_iff.1 hv).1
    rwa [Array.length_toList, hC_size e.chan (Nat.le_of_eq hw.2)] at this
  have h := hr (32 + j) v (by rw [Array.getElem?_toList] at hv ⊢; rw [edgeC_chan hw j hj, hv])
  rwa [← Nat.add_assoc] at h
theorem range_later {w W : World} {b o : Nat} {vs : List Value} (hr : w.rangeAt b o vs) (hL : Later w W) : W.rangeAt b o vs := fun j v hv => Later.cell hL (hr j v hv)
def is66 (cs : Array Value) : Prop := cs.size = 66
theorem infoHopG : (Tryz.prog.info? 27).map (fun i => (i.zero, i.size, i.bytes)) = some (some (Value.agg (hopC noHop)), 66, 80) := by kernel_rfl
theorem buildHops0 (f : Nat → Value) (w : World) : (Instr.buildSlice 22 1 #[(0, .agg ((List.range 66).map f).toArray)]).run Tryz.prog w = .ok (.slice (some ⟨w.heap.size, 0, none⟩) 1 1) (w.alloc (.cells ((List.range 66).map f).toArray 27)) := by kernel_rfl
theorem buildHops1 {h : Hop} (hw : h.wf) (w : World) : (Instr.buildSlice 22 1 #[(0, .agg (hopC h))]).run Tryz.prog w = .ok (.slice (some ⟨w.heap.size, 0, none⟩) 1 1) (w.alloc (.cells (hopC h) 27)) := by
  rw [arr_range (hopC h) 66 (hopC_size hw)]
  exact buildHops0 _ w
theorem hopL_ok {h : Hop} (hw : h.wf) : (hopL h).length = 66 ∧ ∀ u ∈ hopL h, u.oneCell' = true := ⟨hopL_len hw, hopL_one h⟩
theorem stepAt_in {a x : Int} {S : List Int} {l : List Rt.Edge} {p : Nat} (h : p + 1 < l.length) : stepAt a x S l p = ⟨(l[p]'(by omega)).key, l[p + 1].chan, S.getD (p + 1) 0, expAt x l (p + 1)⟩ := by
  unfold stepAt firstAt
  rw [if_pos h, getD_lt h, getD_lt (show p < l.length by omega)]
theorem stepAt_end {a x : Int} {S : List Int} {l : List Rt.Edge} {p : Nat} (hp : p < l.length) (h : ¬ p + 1 < l.length) : stepAt a x S l p = ⟨l[p].key, zh, a, x⟩ := by
  unfold stepAt
  rw [if_neg h, getD_lt hp]
end Go.Proofs.YtloiaaolnfimgaaGreat
