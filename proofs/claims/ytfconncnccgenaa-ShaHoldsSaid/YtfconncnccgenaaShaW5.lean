/- Walks: a state pressed with a block, up to the turns. -/
import Derived.Test.YtfconncnccgenaaShaW4
import Derived.Deep.DeepCutAuto
set_option linter.unusedVariables false
set_option linter.unusedSimpArgs false
namespace Go.Proofs.Ytfconncnccgenaa
open Go.RowKit Go.Shelf
attribute [local go_sem] Oper.semAt_some
theorem name_frame {P : Program} {c : Code} {Q : Exit → Act → World → Prop} {tm : Array Value} {d : List Deferred} {w : World} (h : ∀ T, T = tm → c.wp P Q { tmps := T, defers := d } w) : c.wp P Q { tmps := tm, defers := d } w := h tm rfl
def z16 : Array Value := Array.replicate 16 (.int .u32 0)
theorem alloc16 (w : World) : (Instr.alloc 84 true (.tuple #[])).run Try.prog w = .ok (.pointer (some ⟨w.heap.size, 0, none⟩)) (w.alloc (.cells z16 84)) := by kernel_rfl
def ringTo (l : List UInt8) (k : Nat) : Array Value := ((List.range 16).map fun j => if j < k then wordV (Sha.wd l j) else .int .u32 0).toArray
theorem ringTo_zero (l : List UInt8) : ringTo l 0 = z16 := by simp [ringTo, z16]; rfl
theorem ringTo_set (l : List UInt8) (k : Nat) (h : k < 16) : (ringTo l k).setIfInBounds k (wordV (Sha.wd l k)) = ringTo l (k + 1) := by
  apply Array.ext_getElem?
  intro i
  rw [Array.getElem?_setIfInBounds]
  by_cases hi : i < 16
  · by_cases e : k = i
    · subst e; rw [if_pos rfl, if_pos (by simp [ringTo]; omega)]; simp [ringTo, h]
    · rw [if_neg e]
      simp only [ringTo, List.getElem?_toArray, List.getElem?_map, List.getElem?_range hi, Option.map_some]
      by_cases h3 : i < k
      · rw [if_pos h3, if_pos (by omega)]
      · rw [if_neg h3, if_neg (by omega)]
  · rw [if_neg (by omega)]
    simp [ringTo, hi]
theorem ringTo_all (l : List UInt8) : ringTo l 16 = ringC (Sha.wd l) 0 := by
  unfold ringTo ringC
  apply congrArg List.toArray
  apply List.map_congr_left
  intro j hj
  have := List.mem_range.1 hj
  rw [if_pos this, Sha.ringAt_low _ _ _ (by omega) this]
theorem Rd.cut {w : World} {b o k n : Nat} {l : List UInt8} (h : Rd w (some ⟨b, o, none⟩) l) (hk : k + n ≤ l.length) : Rd w (some ⟨b, o + k, none⟩) ((l.drop k).take n) := fun hne => by
  have h0 : l ≠ [] := by intro e; subst e; simp at hne
  obtain ⟨b', o', e, hc⟩ := h h0
  injection e with e
  injection e with e1 e2
  subst e1 e2
  refine ⟨b, o + k, rfl, fun i hi => ?_⟩
  rw [List.length_take, List.length_drop] at hi
  rw [List.getElem_take, List.getElem_drop, Nat.add_assoc]
  exact hc (k + i) (by omega)
/-- The state that turns: at the turn t the variable i lies at the place i - t. -/
def stC (x : Sha.St) (t : Nat) : Array Value := ((List.range 8).map fun j => wordV (x.get ((j + t) % 8))).toArray
theorem stC_get (x : Sha.St) (t j : Nat) (h : j < 8) : (stC x t)[j]? = some (.int .u32 ((x.get ((j + t) % 8)).toNat : Int)) := by simp [stC, h]
def z8 : Array Value := Array.replicate 8 (.int .u32 0)
theorem alloc8 (w : World) : (Instr.alloc 41 true (.tuple #[])).run Try.prog w = .ok (.pointer (some ⟨w.heap.size, 0, none⟩)) (w.alloc (.cells z8 41)) := by kernel_rfl
theorem info8 : (Try.prog.info? 41).map (·.size) = some 8 := by kernel_rfl
theorem stC_zero (x : Sha.St) : (x.list.map wordV).toArray = stC x 0 := rfl
theorem stC_size (x : Sha.St) (t : Nat) : (stC x t).size = 8 := by simp [stC]
theorem stC_one (x : Sha.St) (t : Nat) : (stC x t).all (·.oneCell') = true := by
  rw [Array.all_eq_true_iff_forall_mem]
  intro v hv
  unfold stC at hv
  rw [List.mem_toArray] at hv
  obtain ⟨i, hi, rfl⟩ := List.mem_map.1 hv
  rfl
theorem storeS (x : Sha.St) (w : World) : (Instr.storeAt 41 (.pointer (some ⟨w.heap.size, 0, none⟩)) (.agg (stC x 0))).run Try.prog (w.alloc (.cells z8 41)) = .ok () (w.alloc (.cells (stC x 0) 41)) :=
  run_storeAt_new w 41 z8 (stC x 0) (by rw [stC_size]; exact info8) (by rw [stC_size]; simp [z8]) (stC_one x 0)
theorem loadS {w : World} {g o : Nat} {T : TypeId} {cs : Array Value} {x : Sha.St} (hrow : Row w g T cs) (hx : ∀ i, i < 8 → cs[o + i]? = some (wordV (x.get i))) : (Instr.loadAt 41 (.pointer (some ⟨g, o, none⟩))).run Try.prog w = .ok (.agg (stC x 0)) w := by
  rw [← stC_zero]
  refine run_loadAt_mid w g o 41 (x.list.map wordV) _ (hrow.range o _ fun j v hv => ?_) Try.underlying41 rfl (by rw [show (x.list.map wordV).length = 8 from rfl]; exact info8)
  have hj : j < 8 := by
    rcases Nat.lt_or_ge j 8 with h | h
    · exact h
    · rw [List.getElem?_eq_none (by simp [Sha.St.list]; omega)] at hv; cases hv
  rw [hx j hj, ← hv]
  have : ∀ j : Fin 8, some (wordV (x.get j.val)) = (x.list.map wordV)[j.val]? := by
    intro j
    match j with
    | 0 => rfl
    | 1 => rfl
    | 2 => rfl
    | 3 => rfl
    | 4 => rfl
    | 5 => rfl
    | 6 => rfl
    | 7 => rfl
  exact this ⟨j, hj⟩
end Go.Proofs.Ytfconncnccgenaa
