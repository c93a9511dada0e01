/- Route, Plan: its second loop's rows, and the way out. -/
import Derived.Test.YtloiaaolnfimgaaGreatRk6b
set_option linter.unusedVariables false
set_option linter.unusedSimpArgs false
namespace Go.Proofs.YtloiaaolnfimgaaGreat
open Go.RowKit Rt
theorem st_open {a x : Int} {S : List Int} {l : List Rt.Edge} {n j i : Nat} (hij : i + 1 + j = n) : ((List.replicate (n - j) (hopL noHop)).flatten ++ stL a x S l j).toArray = stRow i (hopL noHop) (stL a x S l j) := by
  unfold stRow
  rw [show n - j = i + 1 by omega, List.replicate_succ', List.flatten_append]
  simp
theorem st_shut {a x : Int} {S : List Int} {l : List Rt.Edge} {n j i : Nat} (hn : l.length = n) (hij : i + 1 + j = n) : stRow i (hopL (stepAt a x S l i)) (stL a x S l j) = ((List.replicate (n - (j + 1)) (hopL noHop)).flatten ++ stL a x S l (j + 1)).toArray := by
  unfold stRow stL
  rw [hn, show n - (j + 1) = i by omega, show n - j = i + 1 by omega, List.range'_succ, List.map_cons, List.flatten_cons, List.append_assoc]
theorem st_all {a x : Int} {S : List Int} {l : List Rt.Edge} {n : Nat} (hn : l.length = n) : ((List.replicate (n - n) (hopL noHop)).flatten ++ stL a x S l n).toArray = (((List.range l.length).map (stepAt a x S l)).map hopL).flatten.toArray := by
  unfold stL
  rw [hn, Nat.sub_self, List.replicate_zero, List.flatten_nil, List.nil_append, List.map_map, ← List.range_eq_range']
  rfl
theorem firstAt_wf {x : Int} {S : List Int} {l : List Rt.Edge} (hw : ∀ e ∈ l, e.wf) {i : Nat} (hi : i < l.length) : (firstAt x S l i).wf := by
  unfold firstAt
  rw [getD_lt hi]
  exact hw _ (List.getElem_mem hi)
theorem stepAt_wf {a x : Int} {S : List Int} {l : List Rt.Edge} (hw : ∀ e ∈ l, e.wf) {i : Nat} (hi : i < l.length) : (stepAt a x S l i).wf := by
  have h0 := hw _ (List.getElem_mem hi)
  unfold stepAt
  rw [getD_lt hi]
  split
  · rename_i h
    exact ⟨h0.1, (firstAt_wf (x := x) (S := S) hw h).2⟩
  · exact ⟨h0.1, zh_len⟩
theorem bAt_wf {l : List Rt.Edge} (hw : ∀ e ∈ l, e.wf) (k : Nat) : (bAt l k).2.wf := by
  unfold bAt
  simp only
  by_cases h : l.length - 1 - k < l.length
  · rw [getD_lt h]; exact hw _ (List.getElem_mem h)
  · have : l = [] := List.eq_nil_of_length_eq_zero (by omega)
    subst this
    exact ⟨zh_len, zh_len⟩
theorem KeepsFrom.of_later {B : Nat} {W W' : World} (h : Later W W') : KeepsFrom B W W' := ⟨h.size, fun k o _ hk _ => (Below.block h k (Array.getElem?_eq_some_iff.1 hk).1).trans hk⟩
theorem KeepB.from_ {D : Nat → Prop} {B : Nat} {W W' : World} (h : KeepB D W W') (hD : ∀ b, D b → b < B) : KeepsFrom B W W' := ⟨h.size, fun k o hB hk _ => (h.block k (Array.getElem?_eq_some_iff.1 hk).1 (fun hd => by have := hD k hd; omega)).trans hk⟩
theorem KeepB.mono {D E : Nat → Prop} {W W' : World} (h : KeepB D W W') (hD : ∀ b, D b → E b) : KeepB E W W' := ⟨h.size, fun b hb he => h.block b hb (fun hd => he (hD b hd))⟩
section
variable {w W W' : World} {q0 q1 q2 q3 q4 q5 : Nat} {a x : Int} {A : Option Addr} {n c : Nat} {h h' : Hop} {v : Value} {y y' : Int}
theorem PR.in3 (p : PR w q0 q1 q2 q3 q4 q5 a x A n c h v y W) (hg : W.grownBy W' (some q3)) (hr : Row W' q3 27 (hopC h')) (h3 : w.heap.size ≤ q3) (hne : q0 ≠ q3 ∧ q1 ≠ q3) : PR w q0 q1 q2 q3 q4 q5 a x A n c h' v y W' :=
  have f : ∀ {g : Nat}, g ≠ q3 → some g ≠ some q3 := fun hn e => hn (Option.some.inj e)
  ⟨p.r0.grown hg (f hne.1), p.r1.grown hg (f hne.2), p.r2.grown hg (f (ne_rows p.r2 p.r3 (by decide))), hr, p.r4.grown hg (f (ne_rows p.r4 p.r3 (by decide))), p.r5.grown hg (f (ne_rows p.r5 p.r3 (by decide))), Below.grown p.b hg p.b.size (fun j e => by cases e; exact h3)⟩
theorem PR.set4 (p : PR w q0 q1 q2 q3 q4 q5 a x A n c h v y W) (h4 : w.heap.size ≤ q4) (v' : Value) : PR w q0 q1 q2 q3 q4 q5 a x A n c h v' y (W.setCell ⟨q4, 0, none⟩ v') :=
  ⟨p.r0.far (p := ⟨q4, 0, none⟩) (ne_rows p.r0 p.r4 (by decide)) _, p.r1.far (p := ⟨q4, 0, none⟩) (ne_rows p.r1 p.r4 (by decide)) _, p.r2.far (p := ⟨q4, 0, none⟩) (ne_rows p.r2 p.r4 (by decide)) _, p.r3.far (p := ⟨q4, 0, none⟩) (ne_rows p.r3 p.r4 (by decide)) _, p.r4.set 0 _, p.r5.far (p := ⟨q4, 0, none⟩) (ne_rows p.r5 p.r4 (by decide)) _, p.b.setCell (p := ⟨q4, 0, none⟩) h4 _⟩
theorem PR.set5 (p : PR w q0 q1 q2 q3 q4 q5 a x A n c h v y W) (h5 : w.heap.size ≤ q5) (y' : Int) : PR w q0 q1 q2 q3 q4 q5 a x A n c h v y' (W.setCell ⟨q5, 0, none⟩ (.int .i64 y')) :=
  ⟨p.r0.far (p := ⟨q5, 0, none⟩) (ne_rows p.r0 p.r5 (by decide)) _, p.r1.far (p := ⟨q5, 0, none⟩) (ne_rows p.r1 p.r5 (by decide)) _, p.r2.far (p := ⟨q5, 0, none⟩) (ne_rows p.r2 p.r5 (by decide)) _, p.r3.far (p := ⟨q5, 0, none⟩) (ne_rows p.r3 p.r5 (by decide)) _, p.r4.far (p := ⟨q5, 0, none⟩) (ne_rows p.r4 p.r5 (by decide)) _, p.r5.set 0 _, p.b.setCell (p := ⟨q5, 0, none⟩) h5 _⟩
end
/-- What the last region keeps. -/
structure PF (w : World) (q0 q1 q2 q3 q4 q5 gst D : Nat) (a x : Int) (A : Option Addr) (n c : Nat) (h : Hop) (ST : Array Value) (W : World) : Prop where
  pr : PR w q0 q1 q2 q3 q4 q5 a x A n c h (.slice (some ⟨gst, 0, none⟩) n n) 0 W
  st : Row W gst 27 ST
  d : W.heap[D]? = some (.deferred (some []))
theorem PF.later {w W W' : World} {q0 q1 q2 q3 q4 q5 gst D : Nat} {a x : Int} {A : Option Addr} {n c : Nat} {h : Hop} {ST : Array Value} (p : PF w q0 q1 q2 q3 q4 q5 gst D a x A n c h ST W) (hL : Later W W') : PF w q0 q1 q2 q3 q4 q5 gst D a x A n c h ST W' :=
  ⟨p.pr.later hL, p.st.later hL, (Below.block hL D (Array.getElem?_eq_some_iff.1 p.d).1).trans p.d⟩
end Go.Proofs.YtloiaaolnfimgaaGreat
