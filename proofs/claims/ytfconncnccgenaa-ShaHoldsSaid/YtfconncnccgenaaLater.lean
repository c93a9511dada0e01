/- A later world: all that lay in the earlier one lies as it lay. Closed under blocks that are laid, draws and calls, with no side condition: so that a short search shows it. -/
import Derived.Test.YtfconncnccgenaaBytes
set_option linter.unusedVariables false
set_option linter.unusedSimpArgs false
namespace Go.Proofs.Ytfconncnccgenaa
open Go.RowKit
def Later (w W : World) : Prop := Below w.heap.size w W
section
variable {w W W' : World}
theorem Later.refl (w : World) : Later w w := Below.refl _ _
theorem Later.below (h : Later w W) : Below w.heap.size w W := h
theorem Later.size (h : Later w W) : w.heap.size ≤ W.heap.size := Below.size h
theorem Later.alloc (h : Later w W) (o : Obj) : Later w (W.alloc o) := Below.alloc h (Below.size h) o
theorem Later.drew (h : Later w W) : Later w W.drew := Below.drew h
theorem Later.drewN (h : Later w W) (n : Nat) : Later w (W.drewN n) := Below.trans h ((Drawn.refl W).drewN n |>.below _)
theorem Later.call (h : Later w W) (hb : Below W.heap.size W W') : Later w W' := Below.trans h (hb.mono (Below.size h))
theorem Later.drawn (h : Later w W) (hb : Drawn W W') : Later w W' := Below.trans h (hb.below _)
theorem Later.step (h : Later w W) (hb : Later W W') : Later w W' := h.call hb
theorem Rd.later {A : Option Addr} {l : List UInt8} (h : Rd w A l) (k : Later w W) : Rd W A l := h.below k
theorem Rds.later {A : Option Addr} {ls : List (List UInt8)} (h : Rds w A ls) (k : Later w W) : Rds W A ls := h.below k
theorem Row.later {g : Nat} {t : TypeId} {cs : Array Value} (h : Row w g t cs) (k : Later w W) : Row W g t cs := h.belowAll k
theorem Own.later {U : TypeId} {base : Nat} {v : Value} {l : List UInt8} (h : Own U w base v l) (k : Later w W) : Own U W base v l := Own.below h k
theorem Later.cell (k : Later w W) {p : Addr} {v : Value} (h : w.cell? p = some v) : W.cell? p = some v := (Below.cell k (block_lt_of_cell h)).trans h
theorem Rds.drew {A : Option Addr} {ls : List (List UInt8)} (h : Rds w A ls) : Rds w.drew A ls := h.later (Later.refl w).drew
theorem Rds.drewN {A : Option Addr} {ls : List (List UInt8)} (h : Rds w A ls) (n : Nat) : Rds (w.drewN n) A ls := h.later ((Later.refl w).drewN n)
theorem Rds.of_below {A : Option Addr} {ls : List (List UInt8)} (hb : Below w.heap.size w W) (h : Rds w A ls) : Rds W A ls := h.below hb
end
theorem Rds.lit {w : World} {b : Nat} (t : TypeId) (hb : w.heap.size = b) (sl : List (Option Addr × Nat × Nat)) (ls : List (List UInt8)) (hlen : sl.length = ls.length)
    (h : ∀ i (h1 : i < sl.length) (h2 : i < ls.length), ls[i].length = sl[i].2.1 ∧ Rd w sl[i].1 ls[i]) : Rds (w.alloc (.cells (sl.map fun s => .slice s.1 s.2.1 s.2.2).toArray t)) (some ⟨b, 0, none⟩) ls := fun _ => by
  subst hb
  refine ⟨_, _, rfl, fun i hi => ?_⟩
  have h1 : i < sl.length := by omega
  obtain ⟨e, hr⟩ := h i h1 hi
  refine ⟨sl[i].1, sl[i].2.2, ?_, hr.alloc _⟩
  rw [(Row.new w t _).cell]
  simp [h1, e]
theorem Rds.two_at {w : World} {A B : Option Addr} {n c m d b : Nat} {l k : List UInt8} (t : TypeId) (hb : w.heap.size = b) (h : Rd w A l) (hn : l.length = n) (h2 : Rd w B k) (hm : k.length = m) : Rds (w.alloc (.cells #[.slice A n c, .slice B m d] t)) (some ⟨b, 0, none⟩) [l, k] :=
  Rds.lit t hb [(A, n, c), (B, m, d)] [l, k] rfl (fun i h1 h2' => by
    rcases i with _ | _ | i
    · exact ⟨hn, h⟩
    · exact ⟨hm, h2⟩
    · exact absurd h1 (by simp))
theorem Rds.three_at {w : World} {A B C : Option Addr} {n c m d p e b : Nat} {l k q : List UInt8} (t : TypeId) (hb : w.heap.size = b) (h : Rd w A l) (hn : l.length = n) (h2 : Rd w B k) (hm : k.length = m) (h3 : Rd w C q) (hp : q.length = p) : Rds (w.alloc (.cells #[.slice A n c, .slice B m d, .slice C p e] t)) (some ⟨b, 0, none⟩) [l, k, q] :=
  Rds.lit t hb [(A, n, c), (B, m, d), (C, p, e)] [l, k, q] rfl (fun i h1 h2' => by
    rcases i with _ | _ | _ | i
    · exact ⟨hn, h⟩
    · exact ⟨hm, h2⟩
    · exact ⟨hp, h3⟩
    · exact absurd h1 (by simp))
theorem grown_of_below {X Y : World} (h : Below X.heap.size X Y) : X.grownBy Y none := ⟨h.os, h.tape, h.output, h.size, fun k hk _ => h.block k hk⟩
/-- A byte of a row of one's own is set. -/
theorem Own.setAt {U : TypeId} {w : World} {base g n c : Nat} {l : List UInt8} (h : Own U w base (.slice (some ⟨g, 0, none⟩) n c) l) (i : Nat) (x : UInt8) (hi : i < l.length) :
    Own U (w.setCell ⟨g, i, none⟩ (byteV x)) base (.slice (some ⟨g, 0, none⟩) n c) (l.set i x) := by
  obtain ⟨h1, h2⟩ := h
  rcases h2 with ⟨e, _⟩ | ⟨g', cap, cur, e, hb, hh, hn, hc, hs, ht⟩
  · cases e
  · injection e with e1 e2 e3
    injection e1 with e1
    injection e1 with e1
    subst e1 e2 e3
    refine ⟨by rw [List.length_map, List.length_set, Nat.mul_one], .inr ⟨g, c, cur.setIfInBounds i (byteV x), by rw [List.length_set], hb, heap_setCell_same w g i cur U _ hh, by rw [List.length_set]; exact hn, hc, by simpa using hs, ?_⟩⟩
    rw [List.length_set, Array.toList_setIfInBounds, List.take_set, ht, List.map_set]
theorem Own.cellAt {U : TypeId} {w : World} {base g n c : Nat} {l : List UInt8} (h : Own U w base (.slice (some ⟨g, 0, none⟩) n c) l) (i : Nat) (hi : i < l.length) : w.cell? ⟨g, i, none⟩ = some (.int .u8 (l[i].toNat : Int)) ∧ w.frozen? ⟨g, i, none⟩ = false := by
  obtain ⟨A, c', e, _, _, hr⟩ := h.slice
  injection e with e1 _ _
  subst e1
  obtain ⟨b, o, e, hc⟩ := hr.at_ hi
  injection e with e
  injection e with e1 e2
  subst e1 e2
  rw [Nat.zero_add] at hc
  refine ⟨hc, ?_⟩
  rcases h.2 with ⟨e, _⟩ | ⟨g', cap, cur, e, hb, hh, _⟩
  · cases e
  · injection e with e1 _ _
    injection e1 with e1
    injection e1 with e1
    subst e1
    exact frozen_of_row w g i cur U hh
theorem Own.base_le {U : TypeId} {w : World} {base g n c : Nat} {l : List UInt8} (h : Own U w base (.slice (some ⟨g, 0, none⟩) n c) l) : base ≤ g := (h.at_ g rfl).1
theorem Own.formN {U : TypeId} {w : World} {base n : Nat} {v : Value} {l : List UInt8} (h : Own U w base v l) (hn : l.length = n) (hne : 0 < n) :
    ∃ g c, v = .slice (some ⟨g, 0, none⟩) n c ∧ Own U w base (.slice (some ⟨g, 0, none⟩) n c) l ∧ base ≤ g ∧ g < w.heap.size ∧ n ≤ c ∧ c ≤ maxLen := by
  subst hn
  obtain ⟨A, c, e, h1, h2, hr⟩ := h.slice
  have h' := h
  rcases h.2 with ⟨rfl, hn⟩ | ⟨g, cap, cur, rfl, hb, _⟩
  · omega
  · injection e with e1 e2 e3
    subst e3
    exact ⟨g, cap, rfl, h', hb, (h'.at_ g rfl).2, h1, h2⟩
/-- 's[k:]': whether or not k is the capacity. -/
theorem run_slice_from {P : Program} {t U : TypeId} {A : Option Addr} {n ca k : Nat} (ht : P.underlying t = some (.slice U)) (hi : ByteInfo P U) (h1 : k ≤ n) (h2 : n ≤ ca) :
    ∃ D, (∀ w : World, (Instr.slice t (.slice A n ca) (some (.int .i64 (k : Int))) none none).run P w = .ok (.slice D (n - k) (ca - k)) w) ∧ ∀ (W : World) (l : List UInt8), l.length = n → Rd W A l → Rd W D (l.drop k) := by
  obtain ⟨i, hi0, hz, hs, hb⟩ := info_parts hi
  have he : P.elem t = U := by simp [Program.elem, ht]
  have ht' : P.underlying t = some (.slice (P.elem t)) := by rw [he]; exact ht
  refine ⟨if ca = k then A else A.map (·.add (k * 1)), fun w => ?_, fun W l hl hr => ?_⟩
  · rw [run_slice_l w t A n ca ht' .i64 (k : Int) (by omega) (by omega), he]
    simp [sizeOf, typeInfo, hi0, hs, sliced]
  · by_cases h : ca = k
    · have : l.drop k = [] := List.drop_eq_nil_of_le (by omega)
      rw [this]
      exact Rd.nil _ _
    · rw [if_neg h, Nat.mul_one]
      intro hne
      obtain ⟨b, o, e, hc⟩ := hr (by intro e; subst e; simp at hne)
      subst e
      refine ⟨b, o + k, by unfold Addr.add; simp, fun i hi' => ?_⟩
      rw [List.getElem_drop, Nat.add_assoc]
      exact hc (k + i) (by rw [List.length_drop] at hi'; omega)
end Go.Proofs.Ytfconncnccgenaa
