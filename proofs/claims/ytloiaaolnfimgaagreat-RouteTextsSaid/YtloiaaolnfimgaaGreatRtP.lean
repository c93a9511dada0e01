/- Route, plain: plans. -/
import Derived.Test.YtloiaaolnfimgaaGreatRtH
import Derived.Test.YtloiaaolnfimgaaGreatRc5
set_option linter.unusedVariables false
set_option linter.unusedSimpArgs false
namespace Go.Proofs.YtloiaaolnfimgaaGreat
open Go.RowKit
namespace Rt
def okE (e : Edge) : Bool := decide (0 ≤ e.delta) && decide (e.delta ≤ 1000) && rightF (e.base, e.rate)
def feesOf (l : List Edge) : List Fee1 := l.map fun e => (e.base, e.rate)
def noEdge : Edge := ⟨zh, zh, 0, 0, 0⟩
def expAt (x : Int) (l : List Edge) (i : Nat) : Int := x + ((l.drop (i + 1)).map (·.delta)).sum
def firstAt (x : Int) (sent : List Int) (l : List Edge) (i : Nat) : Hop := ⟨(l.getD i noEdge).key, (l.getD i noEdge).chan, sent.getD i 0, expAt x l i⟩
def stepAt (a x : Int) (sent : List Int) (l : List Edge) (i : Nat) : Hop :=
  if i + 1 < l.length then { firstAt x sent l (i + 1) with key := (l.getD i noEdge).key } else ⟨(l.getD i noEdge).key, zh, a, x⟩
def okPlan (a x : Int) (l : List Edge) : Bool := decide (1 ≤ l.length) && decide (l.length ≤ 6) && paid a x && l.all okE
/-- What goes over edges: the first step, the others, the error. -/
def plan (a x : Int) (l : List Edge) : Hop × List Hop × Int :=
  if okPlan a x l then
    if (routeS a (feesOf l.tail)).2 = 0 then
      if expAt x l 0 ≤ 2147483647 then (firstAt x (routeS a (feesOf l.tail)).1 l 0, (List.range l.length).map (stepAt a x (routeS a (feesOf l.tail)).1 l), 0) else (noHop, [], 150)
    else (noHop, [], (routeS a (feesOf l.tail)).2)
  else (noHop, [], 2)
theorem getD_lt {α : Type} {l : List α} {i : Nat} {d : α} (h : i < l.length) : l.getD i d = l[i] := by simp [h]
theorem expAt_last (x : Int) (l : List Edge) (i : Nat) (h : l.length ≤ i + 1) : expAt x l i = x := by
  unfold expAt
  rw [List.drop_of_length_le h]
  simp
theorem expAt_succ (x : Int) (l : List Edge) (i : Nat) (h : i + 1 < l.length) : expAt x l i = expAt x l (i + 1) + (l.getD (i + 1) noEdge).delta := by
  unfold expAt
  rw [List.drop_eq_getElem_cons h, List.map_cons, List.sum_cons, getD_lt h]
  omega
theorem okE_delta {e : Edge} (h : okE e = true) : 0 ≤ e.delta ∧ e.delta ≤ 1000 := by
  simp [okE] at h
  exact ⟨h.1.1, h.1.2⟩
theorem expAt_mono (x : Int) (l : List Edge) (ho : l.all okE = true) (i : Nat) : expAt x l (i + 1) ≤ expAt x l i ∧ expAt x l i ≤ expAt x l (i + 1) + 1000 := by
  by_cases h : i + 1 < l.length
  · have := okE_delta (List.all_eq_true.1 ho _ (List.getElem_mem h))
    rw [expAt_succ x l i h, getD_lt h]
    omega
  · rw [expAt_last x l i (by omega), expAt_last x l (i + 1) (by omega)]
    omega
theorem expAt_le (x : Int) (l : List Edge) (ho : l.all okE = true) : ∀ i, expAt x l i ≤ expAt x l 0
  | 0 => Int.le_refl _
  | i + 1 => Int.le_trans (expAt_mono x l ho i).1 (expAt_le x l ho i)
theorem expAt_ge (x : Int) (l : List Edge) (ho : l.all okE = true) (i : Nat) : x ≤ expAt x l i ∧ expAt x l i ≤ x + 1000 * (l.length : Int) := by
  have key : ∀ k, k ≤ l.length → x ≤ expAt x l (l.length - k) ∧ expAt x l (l.length - k) ≤ x + 1000 * (k : Int) := by
    intro k
    induction k with
    | zero => intro _; rw [expAt_last x l _ (by omega)]; omega
    | succ k ih =>
      intro hk
      have h1 := ih (by omega)
      have h2 := expAt_mono x l ho (l.length - (k + 1))
      rw [show l.length - (k + 1) + 1 = l.length - k by omega] at h2
      constructor
      · omega
      · have : (1000 : Int) * ((k + 1 : Nat) : Int) = 1000 * (k : Int) + 1000 := by omega
        omega
  by_cases h : i ≤ l.length
  · have := key (l.length - i) (by omega)
    rw [show l.length - (l.length - i) = i by omega] at this
    have h3 : ((l.length - i : Nat) : Int) ≤ l.length := by omega
    omega
  · rw [expAt_last x l i (by omega)]
    omega
end Rt
end Go.Proofs.YtloiaaolnfimgaaGreat
