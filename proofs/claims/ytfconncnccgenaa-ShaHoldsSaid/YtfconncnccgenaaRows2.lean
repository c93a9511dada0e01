/- append of slices of bytes onto a row of such that is full. -/
import Derived.Test.YtfconncnccgenaaShaT7
set_option linter.unusedVariables false
set_option linter.unusedSimpArgs false
namespace Go.Proofs.Ytfconncnccgenaa
open Go.RowKit
theorem infoRow : (Try.prog.info? 23).map (fun i => (i.zero, i.size, i.bytes)) = some (some (.slice none 0 0), 1, 24) := by kernel_rfl
/-- A slice of slices, whose bytes lay in an elder world. -/
def RdsW (w0 w : World) (A : Option Addr) (ls : List (List UInt8)) : Prop :=
  ls ≠ [] → ∃ b o, A = some ⟨b, o, none⟩ ∧ ∀ i (h : i < ls.length), ∃ Ai ci, w.cell? ⟨b, o + i, none⟩ = some (.slice Ai ls[i].length ci) ∧ ls[i].length ≤ ci ∧ ci ≤ 9223372036854775807 ∧ Rd w0 Ai ls[i]
theorem RdsC.toW {w : World} {A : Option Addr} {ls : List (List UInt8)} (h : RdsC w A ls) : RdsW w w A ls := h
theorem RdsW.toC {w0 w : World} {A : Option Addr} {ls : List (List UInt8)} (h : RdsW w0 w A ls) (hL : Later w0 w) : RdsC w A ls := fun hl => by
  obtain ⟨b, o, e, hc⟩ := h hl
  refine ⟨b, o, e, fun i hi => ?_⟩
  obtain ⟨Ai, ci, h1, h2, h3, h4⟩ := hc i hi
  exact ⟨Ai, ci, h1, h2, h3, h4.later hL⟩
theorem RdsW.later {w0 w w' : World} {A : Option Addr} {ls : List (List UInt8)} (h : RdsW w0 w A ls) (hb : Later w w') : RdsW w0 w' A ls := fun hl => by
  obtain ⟨b, o, e, hc⟩ := h hl
  refine ⟨b, o, e, fun i hi => ?_⟩
  obtain ⟨Ai, ci, h1, h2, h3, h4⟩ := hc i hi
  exact ⟨Ai, ci, hb.cell h1, h2, h3, h4⟩
theorem RdsW.at_ {w0 w : World} {A : Option Addr} {ls : List (List UInt8)} (h : RdsW w0 w A ls) {k : Nat} (hk : k < ls.length) : ∃ b o Ai ci, A = some ⟨b, o, none⟩ ∧ w.cell? ⟨b, o + k, none⟩ = some (.slice Ai ls[k].length ci) ∧ ls[k].length ≤ ci ∧ ci ≤ 9223372036854775807 ∧ Rd w0 Ai ls[k] := by
  obtain ⟨b, o, e, hc⟩ := h (by intro e; subst e; simp at hk)
  obtain ⟨Ai, ci, h1⟩ := hc k hk
  exact ⟨b, o, Ai, ci, e, h1⟩
theorem RdsW.two {w0 w : World} {A B : Option Addr} {n c m d b : Nat} {l k : List UInt8} (t : TypeId) (hb : w.heap.size = b) (h : Rd w0 A l) (hn : l.length = n) (hc : n ≤ c) (hcm : c ≤ 9223372036854775807) (h2 : Rd w0 B k) (hm : k.length = m) (hd : m ≤ d) (hdm : d ≤ 9223372036854775807) :
    RdsW w0 (w.alloc (.cells #[.slice A n c, .slice B m d] t)) (some ⟨b, 0, none⟩) [l, k] := fun _ => by
  subst hb hn hm
  refine ⟨_, _, rfl, fun i hi => ?_⟩
  rcases i with _ | _ | i
  · exact ⟨A, c, ((Row.new w t _).cell 0).trans rfl, hc, hcm, h⟩
  · exact ⟨B, d, ((Row.new w t _).cell 1).trans rfl, hd, hdm, h2⟩
  · exact absurd hi (by simp)
theorem IsRun.noslice {w : World} {g i : Nat} {l : List UInt8} {A : Option Addr} {n c : Nat} (h : IsRun w g l) : w.cell? ⟨g, i, none⟩ ≠ some (.slice A n c) := by
  obtain ⟨p, hp, _, hr⟩ := h
  intro e
  rw [hr.cell] at e
  have hm := Array.mem_of_getElem? e
  unfold runC at hm
  rw [List.mem_toArray, List.mem_append, List.mem_append] at hm
  rcases hm with hm | hm | hm
  · obtain ⟨i, hi, e2⟩ := List.mem_map.1 hm; cases e2
  · obtain ⟨i, hi, e2⟩ := List.mem_map.1 hm; cases e2
  · simp at hm
theorem RdsW.keepRun {w0 w w' : World} {A : Option Addr} {ls : List (List UInt8)} {g : Nat} {l : List UInt8} (h : RdsW w0 w A ls) (hr : IsRun w g l) (hg : w.grownBy w' (some g)) : RdsW w0 w' A ls := fun hl => by
  obtain ⟨b, o, e, hc⟩ := h hl
  refine ⟨b, o, e, fun i hi => ?_⟩
  obtain ⟨Ai, ci, h1, h2, h3, h4⟩ := hc i hi
  exact ⟨Ai, ci, hg.cell h1 (by intro e2; injection e2 with e2; rw [show b = g from e2] at h1; exact hr.noslice h1), h2, h3, h4⟩
def Pr.rows2 (w0 : World) (ls : List (List UInt8)) : Pr := ⟨fun v W => ∃ g, v = .slice (some ⟨g, 0, none⟩) 2 2 ∧ RdsW w0 W (some ⟨g, 0, none⟩) ls, fun _ _ _ ⟨g, e, h⟩ hL => ⟨g, e, h.later hL⟩⟩
def Pr.rdsW (w0 : World) (n : Nat) (ls : List (List UInt8)) : Pr := ⟨fun v W => ∃ A c, v = .slice A n c ∧ n ≤ c ∧ RdsW w0 W A ls, fun _ _ _ ⟨A, c, e, hc, h⟩ hL => ⟨A, c, e, hc, h.later hL⟩⟩
section
variable {P : Program}
def cellsAt (w : World) (b o n : Nat) : List Value := (List.range n).map fun i => (w.cell? ⟨b, o + i, none⟩).getD undef
theorem cellsAt_len (w : World) (b o n : Nat) : (cellsAt w b o n).length = n := by simp [cellsAt]
theorem cellsAt_get {w : World} {b o n i : Nat} (h : i < n) : (cellsAt w b o n)[i]? = some ((w.cell? ⟨b, o + i, none⟩).getD undef) := by simp [cellsAt, h]
theorem cellsAt_cell {w : World} {b o n : Nat} (h : ∀ i, i < n → ∃ v, w.cell? ⟨b, o + i, none⟩ = some v) : ∀ j v, (cellsAt w b o n)[j]? = some v → w.cell? ((⟨b, o, none⟩ : Addr).add j) = some v := fun j v hv => by
  have hj : j < n := by
    rcases Nat.lt_or_ge j n with h1 | h1
    · exact h1
    · rw [List.getElem?_eq_none (by rw [cellsAt_len]; exact h1)] at hv; cases hv
  rw [cellsAt_get hj] at hv
  obtain ⟨u, hu⟩ := h j hj
  rw [hu] at hv
  injection hv with hv
  rw [show (⟨b, o, none⟩ : Addr).add j = ⟨b, o + j, none⟩ from by
    rcases Nat.eq_zero_or_pos j with rfl | hp
    · rfl
    · simp [Addr.add, Nat.ne_of_gt hp], hu, ← hv]
  rfl
theorem RdsW.cells {w0 w : World} {b o : Nat} {ls : List (List UInt8)} (h : RdsW w0 w (some ⟨b, o, none⟩) ls) : ∀ i, i < ls.length → ∃ v, w.cell? ⟨b, o + i, none⟩ = some v := fun i hi => by
  obtain ⟨b', o', A, c, e, hc, _⟩ := h.at_ hi
  injection e with e
  injection e with e1 e2
  subst e1 e2
  exact ⟨_, hc⟩
theorem run_append_rows (w0 w : World) (t ty U : TypeId) (ht : P.underlying t = some (.slice U)) (hi : (P.info? U).map (fun i => (i.zero, i.size, i.bytes)) = some (some (.slice none 0 0), 1, 24)) (g n : Nat) (xs : List (List UInt8)) (hn : xs.length = n) (hx : RdsW w0 w (some ⟨g, 0, none⟩) xs)
    (B : Option Addr) (m c : Nat) (ys : List (List UInt8)) (hm : ys.length = m) (hy : RdsW w0 w B ys) (hs : n + m ≤ 1000000000000) :
    ∃ D d w', (Builtin.append_ #[t, t] ty #[.slice (some ⟨g, 0, none⟩) n n, .slice B m c]).run P w = .ok (.slice D (n + m) d) w' ∧ RdsW w0 w' D (xs ++ ys) ∧ n + m ≤ d ∧ Later w w' := by
  obtain ⟨i, hi0, hz, hsz, hby⟩ := info_parts hi
  subst hn hm
  rcases Nat.eq_zero_or_pos ys.length with h0 | h0
  · have hy0 : ys = [] := List.eq_nil_of_length_eq_zero h0
    subst hy0
    refine ⟨some ⟨g, 0, none⟩, xs.length, w, ?_, by simpa using hx, Nat.le_refl _, Later.refl w⟩
    rcases B with _ | ad
    · simp [Builtin.append_, run_underlying ht, sizeOf, typeInfo, hi0, hsz, Builtin.lenOf, Builtin.firstCells, storeCells]
    · simp [Builtin.append_, run_underlying ht, sizeOf, typeInfo, hi0, hsz, Builtin.lenOf, Builtin.firstCells, loadCells, loadCellsFrom, storeCells]
  · obtain ⟨b, o, rfl, _⟩ := hy (by intro e; subst e; simp at h0)
    have hr := run_append_grow (P := P) w t ty U i (.slice none 0 0) ht hi0 hz ⟨g, 0, none⟩ xs.length xs.length (cellsAt w g 0 xs.length) (by rw [cellsAt_len, hsz, Nat.mul_one]) (cellsAt_cell hx.cells) ⟨b, o, none⟩ ys.length c (cellsAt w b o ys.length) (by rw [cellsAt_len, hsz, Nat.mul_one]) (cellsAt_cell hy.cells) (by omega) (by omega) (by
      rw [hby]
      have := nextslicecap_le (need := xs.length + ys.length) (old := xs.length) (by omega)
      omega)
    refine ⟨_, _, _, hr, fun _ => ⟨w.heap.size, 0, rfl, fun j hj => ?_⟩, grownCap_ge _ _ _ _, ((Later.refl w).drew).alloc _⟩
    have hc : ∀ q, (w.drew.alloc (.cells ((cellsAt w g 0 xs.length).toArray ++ (cellsAt w b o ys.length).toArray ++ Builtin.zeroCells (Value.slice none 0 0).cells q) U)).cell? ⟨w.heap.size, 0 + j, none⟩ = (cellsAt w g 0 xs.length ++ cellsAt w b o ys.length)[j]? := fun q => by
      rw [show w.heap.size = w.drew.heap.size from rfl, (Row.new w.drew _ _).cell, Nat.zero_add, Array.getElem?_append_left (by simp [cellsAt_len]; simpa using hj)]
      simp
    rw [hc]
    by_cases hj1 : j < xs.length
    · obtain ⟨b', o', A', c', e, h1, h2, h3, h4⟩ := hx.at_ hj1
      injection e with e
      injection e with e1 e2
      subst e1 e2
      refine ⟨A', c', ?_, ?_, h3, ?_⟩
      · rw [List.getElem?_append_left (by rw [cellsAt_len]; exact hj1), cellsAt_get hj1, h1, List.getElem_append_left hj1]
        rfl
      · rw [List.getElem_append_left hj1]; exact h2
      · rw [List.getElem_append_left hj1]; exact h4
    · have hj2 : j - xs.length < ys.length := by simp at hj; omega
      obtain ⟨b', o', A', c', e, h1, h2, h3, h4⟩ := hy.at_ hj2
      injection e with e
      injection e with e1 e2
      subst e1 e2
      refine ⟨A', c', ?_, ?_, h3, ?_⟩
      · rw [List.getElem?_append_right (by rw [cellsAt_len]; omega), cellsAt_len, cellsAt_get hj2, h1, List.getElem_append_right (by omega)]
        rfl
      · rw [List.getElem_append_right (by omega)]; exact h2
      · rw [List.getElem_append_right (by omega)]; exact h4
theorem op_append_rows {Q : Exit → Act → World → Prop} {o : Oper} {a : Act} {w0 w : World} {R : Value → World → Prop} {s x : Operand} {t U : TypeId} {g n : Nat} {xs ys : List (List UInt8)} {B : Option Addr} {m c : Nat}
    (ho : o.op = .call { callee := .builtin .append, args := #[s, x], argTypes := #[t, t] }) (ht : P.underlying t = some (.slice U)) (hi : (P.info? U).map (fun i => (i.zero, i.size, i.bytes)) = some (some (.slice none 0 0), 1, 24))
    (es : a.eval s = .slice (some ⟨g, 0, none⟩) n n) (ex : a.eval x = .slice B m c) (hn : xs.length = n) (hx : RdsW w0 w (some ⟨g, 0, none⟩) xs) (hm : ys.length = m) (hy : RdsW w0 w B ys) (hs : n + m ≤ 1000000000000)
    (h : ∀ D d w', RdsW w0 w' D (xs ++ ys) → n + m ≤ d → Later w w' → R (.slice D (n + m) d) w') : o.wp P a w (fun a' W' => ∃ v, a' = a.put o.dst v ∧ Later w W' ∧ R v W') Q := by
  obtain ⟨D, d, w', hr, h1, h2, h3⟩ := run_append_rows (P := P) w0 w t o.type U ht hi g n xs hn hx B m c ys hm hy hs
  refine op_value (v := .slice D (n + m) d) (W' := w') ?_ h3 (h D d w' h1 h2 h3)
  unfold execOp
  simp only [ho, resolve, invoke, builtin, Sem.run_bind, Sem.run_pure, Result.andThen_ok, List.map_toArray, List.map_cons, List.map_nil, es, ex, hr]
end
end Go.Proofs.Ytfconncnccgenaa
