/- money: slices of numbers; the tables of Go's library that the card ties. -/
import Derived.Test.YtcfhhljjknmniaaDoorMb1
import Derived.Lib.LaidTab
set_option linter.unusedVariables false
set_option linter.unusedSimpArgs false
namespace Go.Proofs.YtcfhhljjknmniaaDoor
open Go.RowKit Go.ChangeShapes Go.WideShapes Go.ChangeAt
/-- The blocks of which p holds are as they were; the streams too; no block has gone. -/
structure Same (p : Nat → Prop) (w w' : World) : Prop where
  os : w'.os = w.os
  tape : w'.tape = w.tape
  output : w'.output = w.output
  size : w.heap.size ≤ w'.heap.size
  block : ∀ k, p k → w'.heap[k]? = w.heap[k]?
theorem Same.refl (p : Nat → Prop) (w : World) : Same p w w := ⟨rfl, rfl, rfl, Nat.le_refl _, fun _ _ => rfl⟩
theorem Same.trans {p : Nat → Prop} {a b c : World} (h : Same p a b) (k : Same p b c) : Same p a c := ⟨k.os.trans h.os, k.tape.trans h.tape, k.output.trans h.output, Nat.le_trans h.size k.size, fun i hi => (k.block i hi).trans (h.block i hi)⟩
theorem Same.mono {p q : Nat → Prop} {a b : World} (h : Same p a b) (hq : ∀ k, q k → p k) : Same q a b := ⟨h.os, h.tape, h.output, h.size, fun k hk => h.block k (hq k hk)⟩
theorem Same.below {B : Nat} {a b : World} (h : Same (fun k => k < B) a b) : Below B a b := ⟨h.os, h.tape, h.output, h.size, h.block⟩
theorem Same.of_below {B : Nat} {a b : World} (h : Below B a b) : Same (fun k => k < B) a b := ⟨h.os, h.tape, h.output, h.size, h.block⟩
theorem Same.of_grown {row : Option Nat} {a b : World} (h : a.grownBy b row) : Same (fun k => k < a.heap.size ∧ some k ≠ row) a b := ⟨h.os, h.tape, h.output, h.size, fun k hk => h.block k hk.1 hk.2⟩
theorem Same.set (w : World) (p : Addr) (v : Value) : Same (fun k => k ≠ p.block) w (w.setCell p v) := ⟨rfl, rfl, rfl, by simp [World.setCell], fun k hk => Below.heap_setCell w p v k hk⟩
theorem Same.alloc (w : World) (o : Obj) : Same (fun k => k < w.heap.size) w (w.alloc o) := ⟨rfl, rfl, rfl, by simp, fun k hk => Below.heap_alloc w o k hk⟩
theorem Row.same {p : Nat → Prop} {w w' : World} {g : Nat} {t : TypeId} {cs : Array Value} (h : Row w g t cs) (hs : Same p w w') (hg : p g) : Row w' g t cs := (hs.block g hg).trans h
theorem Rd.same {p : Nat → Prop} {w w' : World} {A : Option Addr} {l : List UInt8} (h : Rd w A l) (hs : Same p w w') (hg : ∀ b o, A = some ⟨b, o, none⟩ → l ≠ [] → p b) : Rd w' A l := fun hl => by
  obtain ⟨b, o, e, hc⟩ := h hl
  exact ⟨b, o, e, fun i hi => (World.cell?_of_block (w := w) (a := ⟨b, o + i, none⟩) (hs.block b (hg b o e hl))).trans (hc i hi)⟩
abbrev numV (z : Int) : Value := .int .i64 z
def RdV (w : World) (A : Option Addr) (vs : List Value) : Prop :=
  vs ≠ [] → ∃ b o, A = some ⟨b, o, none⟩ ∧ ∀ i (h : i < vs.length), w.cell? ⟨b, o + i, none⟩ = some vs[i]
theorem RdV.nil (w : World) (A : Option Addr) : RdV w A [] := fun h => absurd rfl h
theorem RdV.keep {w w' : World} {A : Option Addr} {vs : List Value} (h : RdV w A vs) (hk : ∀ b, (∃ o, A = some ⟨b, o, none⟩) → vs ≠ [] → b < w.heap.size → w'.heap[b]? = w.heap[b]?) : RdV w' A vs := fun hl => by
  obtain ⟨b, o, e, hc⟩ := h hl
  have hb : b < w.heap.size := block_lt_of_cell (hc 0 (List.length_pos_iff.2 hl))
  exact ⟨b, o, e, fun i hi => (World.cell?_of_block (w := w) (a := ⟨b, o + i, none⟩) (hk b ⟨o, e⟩ hl hb)).trans (hc i hi)⟩
theorem RdV.below {w w' : World} {A : Option Addr} {vs : List Value} (h : RdV w A vs) (hb : Below w.heap.size w w') : RdV w' A vs := h.keep fun b _ _ hl => hb.block b hl
theorem RdV.later {w w' : World} {A : Option Addr} {vs : List Value} (h : RdV w A vs) (hb : Later w w') : RdV w' A vs := h.below hb
theorem RdV.same {p : Nat → Prop} {w w' : World} {A : Option Addr} {vs : List Value} (h : RdV w A vs) (hs : Same p w w') (hp : ∀ b o, A = some ⟨b, o, none⟩ → vs ≠ [] → b < w.heap.size → p b) : RdV w' A vs := h.keep fun b ⟨o, e⟩ hl hb => hs.block b (hp b o e hl hb)
theorem RdV.alloc {w : World} {A : Option Addr} {vs : List Value} (h : RdV w A vs) (o : Obj) : RdV (w.alloc o) A vs := h.below (below_new w o)
theorem RdV.drew {w : World} {A : Option Addr} {vs : List Value} (h : RdV w A vs) : RdV w.drew A vs := h
theorem RdV.at_ {w : World} {A : Option Addr} {vs : List Value} (h : RdV w A vs) {k : Nat} (hk : k < vs.length) : ∃ b o, A = some ⟨b, o, none⟩ ∧ w.cell? ⟨b, o + k, none⟩ = some vs[k] := by
  obtain ⟨b, o, e, hc⟩ := h (by intro e; subst e; simp at hk)
  exact ⟨b, o, e, hc k hk⟩
theorem RdV.row {w : World} {g : Nat} {t : TypeId} {vs : List Value} (h : Row w g t vs.toArray) : RdV w (some ⟨g, 0, none⟩) vs := fun _ =>
  ⟨g, 0, rfl, fun i hi => by rw [h.cell, Nat.zero_add, List.getElem?_toArray, List.getElem?_eq_getElem hi]⟩
section
variable {H : Type} {enc : TypeId × Value → H} {P : Program} {w : World} {held : Bool}
theorem rdV_of {A : Addr} {vs : List Value} (h : ∀ i (hi : i < vs.length), w.cell? (A.add i) = some vs[i]) : RdV w (some A) vs := fun hne => by
  have h0 : 0 < vs.length := List.length_pos_iff.2 hne
  obtain ⟨b, o, rfl⟩ : ∃ b o, A = ⟨b, o, none⟩ := ⟨_, _, addr_none (h 0 h0)⟩
  exact ⟨b, o, rfl, fun i hi => by have := h i hi; rwa [addr_add] at this⟩
theorem in_nums {t e : TypeId} {fuel : Nat} {v : Value} {x : DataW H × List MemPlace} (ht : P.underlying t = some (.slice e)) (he : P.underlying e = some (.int .i64)) (hc : P.cellsOf e = 1)
    (h : DataW.trod enc P w 0 (fun _ => true) held fuel t [v] = some x) : ∃ (l : List Int) (A : Option Addr) (c : Nat), v = .slice A l.length c ∧ l.length ≤ c ∧ c ≤ maxLen ∧ RdV w A (l.map numV) := by
  rcases open_ints ht he hc h with ⟨hcs, _⟩ | ⟨ad, len, cap, zs, hcs, _, hl, hm, hz, _, hcell, hwz⟩
  · injection hcs with h1
    subst h1
    exact ⟨[], none, 0, rfl, Nat.le_refl _, Nat.zero_le _, RdV.nil _ _⟩
  · injection hcs with h1
    subst h1
    simp only [if_true] at hz
    have hlen : (zs.take len).length = len := by rw [List.length_take]; omega
    refine ⟨zs.take len, some ad, cap, by rw [hlen], by omega, hm, rdV_of fun i hi => ?_⟩
    have hi' : i < len := by rw [List.length_map, hlen] at hi; exact hi
    have := hcell i (by omega)
    have e : zs.getD i 0 = zs[i]'(by omega) := by simp [List.getD, show i < zs.length by omega]
    rw [this, e]
    simp
end
theorem Calls.post {P : Program} {f : FuncId} {args : Array Value} {w : World} {R : Ending → World → Prop} (h : ∀ Φ : Ending → World → Prop, Hid (∀ e w', R e w' → Φ e w') → Calls P f args w Φ) : Calls P f args w R := h R (Lib.hid fun _ _ h => h)
end Go.Proofs.YtcfhhljjknmniaaDoor
