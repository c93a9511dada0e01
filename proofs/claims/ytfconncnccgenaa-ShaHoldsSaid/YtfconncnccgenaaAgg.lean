/- Whole variables (arrays, structs) that lie in a block known whole: boxed, loaded, stored; an array filled place by place. Over any program. -/
import Derived.Test.YtfconncnccgenaaLater
set_option linter.unusedVariables false
set_option linter.unusedSimpArgs false
namespace Go.Proofs.Ytfconncnccgenaa
open Go.RowKit
section
variable {P : Program}
theorem run_box_row (w : World) (T : TypeId) (cs : Array Value) (hi : (P.info? T).map (·.size) = some cs.size) : (Instr.box T (.agg cs)).run P w = .ok (.pointer (some ⟨w.heap.size, 0, none⟩)) (w.alloc (.cells cs T)) := by
  obtain ⟨i, hi0, hs⟩ := Option.map_eq_some_iff.1 hi
  simp [Instr.box, sizeOf, typeInfo, hi0, hs, go_sem]
theorem run_load_row {w : World} {g : Nat} {t T : TypeId} {cs : Array Value} {d : TypeDesc} (hr : Row w g t cs) (hu : P.underlying T = some d) (hd : d.isRow = true) (hi : (P.info? T).map (·.size) = some cs.size) : (Instr.loadAt T (.pointer (some ⟨g, 0, none⟩))).run P w = .ok (.agg cs) w := by
  have := run_loadAt_mid (P := P) w g 0 T cs.toList d (hr.range 0 _ fun j v hv => by rw [Nat.zero_add, ← Array.getElem?_toList]; exact hv) hu hd (by rw [Array.length_toList]; exact hi)
  rwa [Array.toArray_toList] at this
theorem run_load_part {w : World} {g o : Nat} {t T : TypeId} {cs vs : Array Value} {d : TypeDesc} (hr : Row w g t cs) (hv : ∀ j, j < vs.size → cs[o + j]? = vs[j]?) (hu : P.underlying T = some d) (hd : d.isRow = true) (hi : (P.info? T).map (·.size) = some vs.size) : (Instr.loadAt T (.pointer (some ⟨g, o, none⟩))).run P w = .ok (.agg vs) w := by
  have := run_loadAt_mid (P := P) w g o T vs.toList d (hr.range o _ fun j v hj => by
    have hlt : j < vs.size := by
      rcases Nat.lt_or_ge j vs.size with h | h
      · exact h
      · rw [Array.getElem?_toList, Array.getElem?_eq_none h] at hj; cases hj
    rw [hv j hlt, ← Array.getElem?_toList]; exact hj) hu hd (by rw [Array.length_toList]; exact hi)
  rwa [Array.toArray_toList] at this
theorem run_put_row {w : World} {g : Nat} {t T : TypeId} {cs vs : Array Value} (hr : Row w g t cs) (hs : vs.size = cs.size) (hi : (P.info? T).map (·.size) = some vs.size) (h1 : vs.all (·.oneCell') = true) :
    ∃ w', (Instr.storeAt T (.pointer (some ⟨g, 0, none⟩)) (.agg vs)).run P w = .ok () w' ∧ Row w' g t vs ∧ w.grownBy w' (some g) := by
  refine ⟨_, run_store_row hr vs hi (by omega) h1, ?_, grown_setCells _ _ _⟩
  have := row_setCells vs.toList 0 w cs hr
  rwa [setFrom_whole _ _ (by simp [hs])] at this
end
theorem Row.has {w : World} {g : Nat} {t : TypeId} {cs : Array Value} (h : Row w g t cs) (i : Nat) (hi : i < cs.size) : ∃ v, w.cell? ⟨g, i, none⟩ = some v := ⟨_, (h.cell i).trans (Array.getElem?_eq_getElem hi)⟩
theorem below_dN {B : Nat} {w W : World} (h : Below B w W) (n : Nat) : Below B w (W.drewN n) := h.trans ((Drawn.refl W).drewN n |>.below _)
/-- An array of which the first places have been filled. -/
def fillTo (n : Nat) (z : Value) (f : Nat → Value) (k : Nat) : Array Value := ((List.range n).map fun j => if j < k then f j else z).toArray
theorem fillTo_size (n : Nat) (z : Value) (f : Nat → Value) (k : Nat) : (fillTo n z f k).size = n := by simp [fillTo]
theorem fillTo_get (n : Nat) (z : Value) (f : Nat → Value) (k j : Nat) (h : j < n) : (fillTo n z f k)[j]? = some (if j < k then f j else z) := by simp [fillTo, h]
theorem fillTo_get_lt {n : Nat} {z : Value} {f : Nat → Value} {k j : Nat} (hk : k ≤ n) (h : j < k) : (fillTo n z f k)[j]? = some (f j) := by rw [fillTo_get _ _ _ _ _ (by omega), if_pos h]
theorem fillTo_zero (n : Nat) (z : Value) (f : Nat → Value) : fillTo n z f 0 = Array.replicate n z := by
  apply Array.ext_getElem?
  intro i
  by_cases h : i < n
  · rw [fillTo_get n z f 0 i h, if_neg (by omega)]; simp [h]
  · rw [Array.getElem?_eq_none (by rw [fillTo_size]; omega), Array.getElem?_eq_none (by simp; omega)]
theorem fillTo_set (n : Nat) (z : Value) (f : Nat → Value) (k : Nat) (h : k < n) : (fillTo n z f k).setIfInBounds k (f k) = fillTo n z f (k + 1) := by
  apply Array.ext_getElem?
  intro i
  rw [Array.getElem?_setIfInBounds]
  by_cases hi : i < n
  · by_cases e : k = i
    · subst e; rw [if_pos rfl, if_pos (by rw [fillTo_size]; exact h), fillTo_get n z f (k + 1) k hi, if_pos (by omega)]
    · rw [if_neg e, fillTo_get n z f k i hi, fillTo_get n z f (k + 1) i hi]
      by_cases h3 : i < k
      · rw [if_pos h3, if_pos (by omega)]
      · rw [if_neg h3, if_neg (by omega)]
  · rw [if_neg (by omega), Array.getElem?_eq_none (by rw [fillTo_size]; omega), Array.getElem?_eq_none (by rw [fillTo_size]; omega)]
theorem fillTo_all (n : Nat) (z : Value) (f : Nat → Value) : fillTo n z f n = ((List.range n).map f).toArray := by
  unfold fillTo
  apply congrArg List.toArray
  apply List.map_congr_left
  intro j hj
  rw [if_pos (List.mem_range.1 hj)]
theorem fillTo_one {n : Nat} {z : Value} {f : Nat → Value} {k : Nat} (hz : z.oneCell' = true) (hf : ∀ j, (f j).oneCell' = true) : (fillTo n z f k).all (·.oneCell') = true := by
  rw [Array.all_eq_true_iff_forall_mem]
  intro v hv
  unfold fillTo at hv
  rw [List.mem_toArray] at hv
  obtain ⟨i, hi, rfl⟩ := List.mem_map.1 hv
  split
  · exact hf i
  · exact hz
end Go.Proofs.Ytfconncnccgenaa
