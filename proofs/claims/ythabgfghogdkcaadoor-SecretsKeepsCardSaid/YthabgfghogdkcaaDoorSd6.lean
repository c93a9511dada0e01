/- Walks, secrets: Raw. -/
import Derived.Test.YthabgfghogdkcaaDoorSd5
set_option linter.unusedVariables false
set_option linter.unusedSimpArgs false
namespace Go.Proofs.YthabgfghogdkcaaDoor
open Go.RowKit
attribute [local go_sem] Oper.semAt_some
theorem later_of_wrote {W W1 W2 : World} {g : Nat} {r r' : Option Nat} (hb : Later W W1) (hg : W.heap.size ≤ g) (hr : ∀ k, r = some k → W.heap.size ≤ k) (hs : Wrote W1 W2 g r r') : Later W W2 :=
  ((Same.of_below hb).trans (hs.1.mono fun k h => ⟨Nat.lt_of_lt_of_le h hb.size, by omega, fun e => by have := hr k e.symm; omega⟩)).below
theorem Own.cells {U : TypeId} {w : World} {base : Nat} {v : Value} {l : List UInt8} (h : Own U w base v l) {k : Nat} (e : v.ownBlock = some k) : ∃ cs t fr, w.heap[k]? = some (.cells cs t fr) := by
  obtain ⟨h1, h2⟩ := h
  rcases h2 with ⟨rfl, hn⟩ | ⟨g, cap, cur, rfl, hb, hh, hr⟩
  · cases e
  · cases e; exact ⟨_, _, _, hh⟩
theorem IsWr.keepA {X Y : World} {g : Nat} {r : Option Nat} {l : List UInt8} (h : IsWr X g r l) (hk : KeepA X Y) : IsWr Y g r l := by
  obtain ⟨v, h1, h2, h3, h4⟩ := h
  exact ⟨v, hk.row h1, h2.keep fun b hb e => by obtain ⟨cs, t, fr, hc⟩ := h2.cells e; exact hk b cs t fr hc, h3, h4⟩
theorem IsWr.from {X Y : World} {g : Nat} {r r' : Option Nat} {l : List UInt8} (h : IsWr X g r l) (hw : Wrote X Y g r r') (B : Nat) : KeepsFrom B X Y := by
  obtain ⟨v, h1, h2, h3, h4⟩ := h
  refine ⟨hw.1.size, fun k o _ hk hc => (hw.1.block k ⟨(Array.getElem?_eq_some_iff.1 hk).1, fun e => ?_, fun e => ?_⟩).trans hk⟩
  · subst e
    have h5 : X.heap[k]? = _ := h1
    rw [hk] at h5
    cases h5
    cases hc
  · obtain ⟨cs, t, fr, h5⟩ := h2.cells (h3.trans e.symm)
    rw [hk] at h5
    cases h5
    cases hc
theorem Wrote.row {X Y : World} {g q : Nat} {r r' : Option Nat} {t : TypeId} {cs : Array Value} (hw : Wrote X Y g r r') (hr : Row X q t cs) (hq : q ≠ g) (hqr : r ≠ some q) : Row Y q t cs := hr.same hw.1 ⟨hr.lt, hq, fun e => hqr e.symm⟩
/-- What was laid so far. -/
structure RawP (B gw q3 gA : Nat) (l : List UInt8) (X : World) : Prop where
  ex : ∃ r, IsWr X gw r l ∧ ∀ k, r = some k → B ≤ k ∧ k ≠ q3 ∧ k ≠ gA
  k3 : Row X q3 80 #[.pointer (some ⟨gw, 0, none⟩)]
theorem RawP.keepA {B gw q3 gA : Nat} {l : List UInt8} {X Y : World} (h : RawP B gw q3 gA l X) (hk : KeepA X Y) : RawP B gw q3 gA l Y := by
  obtain ⟨r, h1, h2⟩ := h.ex
  exact ⟨⟨r, h1.keepA hk, h2⟩, hk.row h.k3⟩
theorem RawP.later {B gw q3 gA : Nat} {l : List UInt8} {X Y : World} (h : RawP B gw q3 gA l X) (hk : Later X Y) : RawP B gw q3 gA l Y := h.keepA (KeepA.later hk)
theorem buildN1 (n : Int) (w : World) : (Instr.buildSlice 114 1 #[(0, numV n)]).run Tryd.prog w = .ok (.slice (some ⟨w.heap.size, 0, none⟩) 1 1) (w.alloc (.cells #[numV n] 2)) := by kernel_rfl
def Pr.numsB (B : Nat) (n : Int) : Pr := ⟨fun v W => ∃ g, v = .slice (some ⟨g, 0, none⟩) 1 1 ∧ RdV W (some ⟨g, 0, none⟩) [numV n] ∧ B ≤ g, fun _ _ _ ⟨g, e, h, hB⟩ hL => ⟨g, e, h.later hL, hB⟩⟩
theorem buildHR (f : Nat → UInt8) (w : World) : (Instr.buildSlice 118 1 #[(0, .agg ((List.range 32).map fun i => byteV (f i)).toArray)]).run Tryd.prog w = .ok (.slice (some ⟨w.heap.size, 0, none⟩) 1 1) (w.alloc (.cells ((List.range 32).map fun i => byteV (f i)).toArray 23)) := by kernel_rfl
theorem buildHs (h : List UInt8) (hl : h.length ≤ 32) (w : World) : (Instr.buildSlice 118 1 #[(0, .agg (hC h))]).run Tryd.prog w = .ok (.slice (some ⟨w.heap.size, 0, none⟩) 1 1) (w.alloc (.cells (hC h) 23)) := by
  rw [hC_range h hl]
  exact buildHR _ w
theorem RdH.new (w : World) (h : List UInt8) : RdH (w.alloc (.cells (hC h) 23)) (some ⟨w.heap.size, 0, none⟩) [h] := fun _ => ⟨w.heap.size, 0, rfl, fun i hi => by
  obtain rfl : i = 0 := by simpa using hi
  exact (Row.new w 23 (hC h)).range 0 _ fun j v hj => by rw [Nat.zero_add, ← Array.getElem?_toList]; exact hj⟩
theorem loadPW {b o : Nat} {v : Value} {W : World} (hc : W.cell? ⟨b, o, none⟩ = some v) : (Instr.loadAt 80 (.pointer (some ⟨b, o, none⟩))).run Tryd.prog W = .ok v W := by
  go_simp
end Go.Proofs.YthabgfghogdkcaaDoor
