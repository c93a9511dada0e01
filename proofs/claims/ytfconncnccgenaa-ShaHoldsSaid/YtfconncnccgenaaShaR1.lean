/- A sum under way: its cells, and what becomes of them; no walk. -/
import Derived.Test.YtfconncnccgenaaShaW7
import Derived.Test.YtfconncnccgenaaAppZ
set_option linter.unusedVariables false
set_option linter.unusedSimpArgs false
namespace Go.Proofs.Ytfconncnccgenaa
open Go.RowKit
theorem setFrom_mid (pre mid post vs : List Value) (o : Nat) (ho : pre.length = o) (h : vs.length = mid.length) : setFrom (pre ++ (mid ++ post)).toArray o vs = (pre ++ (vs ++ post)).toArray := by
  subst ho
  apply Array.ext_getElem?
  intro i
  rw [setFrom_get _ _ _ _ (by simp; omega), List.getElem?_toArray, List.getElem?_toArray]
  by_cases h1 : i < pre.length
  · rw [if_neg (by omega), List.getElem?_append_left h1, List.getElem?_append_left h1]
  · have hl : ∀ m : List Value, (pre ++ (m ++ post))[i]? = (m ++ post)[i - pre.length]? := fun m => List.getElem?_append_right (by omega)
    rw [hl mid, hl vs]
    by_cases h2 : i < pre.length + vs.length
    · rw [if_pos (by omega), List.getElem?_append_left (by omega)]
    · rw [if_neg (by omega), List.getElem?_append_right (l₁ := vs) (by omega), List.getElem?_append_right (l₁ := mid) (by omega), h]
def runC (x : Sha.St) (p : List UInt8) (n : Nat) : Array Value := (x.list.map wordV ++ (p.map byteV ++ [intV n, .bool true])).toArray
theorem stl (x : Sha.St) : (x.list.map wordV).length = 8 := rfl
theorem runC_size (x : Sha.St) (p : List UInt8) (n : Nat) (hp : p.length = 64) : (runC x p n).size = 74 := by simp [runC, hp, Sha.St.list]
theorem runC_st (x y : Sha.St) (p : List UInt8) (n : Nat) : setFrom (runC x p n) 0 (y.list.map wordV) = runC y p n := by
  have := setFrom_mid [] (x.list.map wordV) (p.map byteV ++ [intV n, .bool true]) (y.list.map wordV) 0 rfl rfl
  simpa [runC] using this
theorem runC_part (x : Sha.St) (p b : List UInt8) (n at_ : Nat) (hp : p.length = 64) (h : at_ + b.length ≤ 64) : setFrom (runC x p n) (8 + at_) (b.map byteV) = runC x (p.take at_ ++ (b ++ p.drop (at_ + b.length))) n := by
  have e : p = p.take at_ ++ ((p.drop at_).take b.length ++ p.drop (at_ + b.length)) := by
    rw [← List.drop_drop, List.take_append_drop, List.take_append_drop]
  have := setFrom_mid (x.list.map wordV ++ (p.take at_).map byteV) (((p.drop at_).take b.length).map byteV) ((p.drop (at_ + b.length)).map byteV ++ [intV n, .bool true]) (b.map byteV) (8 + at_)
    (by rw [List.length_append, stl, List.length_map, List.length_take]; omega) (by simp only [List.length_map, List.length_take, List.length_drop]; omega)
  unfold runC
  conv => lhs; rw [e]
  simp only [List.map_append, List.append_assoc] at this ⊢
  exact this
theorem runC_came (x : Sha.St) (p : List UInt8) (n m : Nat) (hp : p.length = 64) : (runC x p n).setIfInBounds 72 (intV m) = runC x p m := by
  have := setFrom_mid (x.list.map wordV ++ p.map byteV) [intV n] [.bool true] [intV m] 72 (by rw [List.length_append, stl, List.length_map, hp]) rfl
  simp only [List.append_assoc, List.cons_append, List.nil_append] at this
  exact this
theorem runC_get72 (x : Sha.St) (p : List UInt8) (n : Nat) (hp : p.length = 64) : (runC x p n)[72]? = some (.int .i64 (n : Int)) := by
  unfold runC
  rw [List.getElem?_toArray, List.getElem?_append_right (by rw [stl]; omega), List.getElem?_append_right (by rw [stl, List.length_map]; omega), stl, List.length_map, hp]
  rfl
theorem runC_get73 (x : Sha.St) (p : List UInt8) (n : Nat) (hp : p.length = 64) : (runC x p n)[73]? = some (.bool true) := by
  unfold runC
  rw [List.getElem?_toArray, List.getElem?_append_right (by rw [stl]; omega), List.getElem?_append_right (by rw [stl, List.length_map]; omega), stl, List.length_map, hp]
  rfl
theorem runC_state (x : Sha.St) (p : List UInt8) (n : Nat) (i : Nat) (h : i < 8) : (runC x p n)[0 + i]? = some (wordV (x.get i)) := by
  unfold runC
  rw [Nat.zero_add, List.getElem?_toArray, List.getElem?_append_left (by rw [stl]; exact h), list_get x i h]
theorem runC_rd {w : World} {g : Nat} {T : TypeId} {x : Sha.St} {p : List UInt8} {n : Nat} (hp : p.length = 64) (h : Row w g T (runC x p n)) : Rd w (some ⟨g, 8, none⟩) p := fun _ =>
  ⟨g, 8, rfl, fun i hi => by
    rw [h.cell]
    unfold runC
    rw [List.getElem?_toArray, List.getElem?_append_right (by rw [stl]; omega), stl, show 8 + i - 8 = i from by omega, List.getElem?_append_left (by rw [List.length_map]; exact hi), List.getElem?_map, List.getElem?_eq_getElem hi]
    rfl⟩
theorem runC_one (x : Sha.St) (p : List UInt8) (n : Nat) : (runC x p n).all (·.oneCell') = true := by
  rw [Array.all_eq_true_iff_forall_mem]
  intro v hv
  unfold runC at hv
  rw [List.mem_toArray, List.mem_append, List.mem_append] at hv
  rcases hv with hv | hv | hv
  · obtain ⟨i, hi, rfl⟩ := List.mem_map.1 hv; rfl
  · obtain ⟨i, hi, rfl⟩ := List.mem_map.1 hv; rfl
  · simp at hv
    rcases hv with rfl | rfl <;> rfl
/-- A sum under way, to which these bytes came. -/
def IsRun (w : World) (g : Nat) (l : List UInt8) : Prop := ∃ p, p.length = 64 ∧ p.take (l.length % 64) = Sha.left l ∧ Row w g 77 (runC (Sha.state l) p l.length)
theorem IsRun.lt {w : World} {g : Nat} {l : List UInt8} (h : IsRun w g l) : g < w.heap.size := by
  obtain ⟨p, _, _, hr⟩ := h
  exact hr.lt
theorem IsRun.later {w w' : World} {g : Nat} {l : List UInt8} (h : IsRun w g l) (hL : Later w w') : IsRun w' g l := by
  obtain ⟨p, h1, h2, hr⟩ := h
  exact ⟨p, h1, h2, hr.later hL⟩
theorem IsRun.grown {w w' : World} {g : Nat} {l : List UInt8} {row : Option Nat} (h : IsRun w g l) (hg : w.grownBy w' row) (hn : some g ≠ row) : IsRun w' g l := by
  obtain ⟨p, h1, h2, hr⟩ := h
  exact ⟨p, h1, h2, hr.grown hg hn⟩
end Go.Proofs.Ytfconncnccgenaa
