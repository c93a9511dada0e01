/- Facts that a turn of WireFrames keeps. -/
import Derived.Test.YtmipaacobioakaaWr47
set_option linter.unusedVariables false
set_option linter.unusedSimpArgs false
namespace Go.Proofs.Ytmipaacobioakaa
open Go.RowKit
theorem Row.upto {w w' : World} {g M : Nat} {t : TypeId} {cs : Array Value} (h : Row w g t cs) (hb : Below M w w') (hg : g < M) : Row w' g t cs := (hb.block g hg).trans h
/-- What lies below M: the bound, the result's cell, the iterator's bytes, the document's parts, the given bytes. -/
structure TF (w1 : World) (M q : Nat) (many : Int) (gf gd : Nat) (A7 : Option Addr) (n2 c7 : Nat) (s : List UInt8) (q18 bp : Nat) (A18 : Option Addr) (K c18 : Nat) (ds : List PartR) (A2 : Option Addr) (W : World) : Prop where
  size : M ≤ W.heap.size
  k5 : Row W q 3 #[.int .i64 many]
  k6 : Row W (q + 1) 4 #[.bool false]
  kf : Row W gf 22 #[.slice A7 n2 c7]
  rd7 : Rd W A7 s
  k18 : Row W q18 85 #[.slice A18 K c18]
  own18 : OwnParts W bp (.slice A18 K c18) ds
  rd2 : Rd W A2 s
  lat : Later w1 W
  hq : q + 1 < M
  hf : gf < M
  hg : ∀ ad, A7 = some ad → ad.block = gd
  hgd : gd < M
  h18 : q18 < M
  hown : ∀ k, Value.ownBlock (.slice A18 K c18) = some k → k < M
  h2 : ∀ b o, A2 = some ⟨b, o, none⟩ → s ≠ [] → b < M
  h1 : w1.heap.size ≤ M
theorem TF.below {w1 : World} {M q : Nat} {many : Int} {gf gd : Nat} {A7 : Option Addr} {n2 c7 : Nat} {s : List UInt8} {q18 bp : Nat} {A18 : Option Addr} {K c18 : Nat} {ds : List PartR} {A2 : Option Addr} {W W' : World}
    (h : TF w1 M q many gf gd A7 n2 c7 s q18 bp A18 K c18 ds A2 W) (hb : Below M W W') : TF w1 M q many gf gd A7 n2 c7 s q18 bp A18 K c18 ds A2 W' where
  size := Nat.le_trans h.size hb.size
  k5 := h.k5.upto hb (by have := h.hq; omega)
  k6 := h.k6.upto hb h.hq
  kf := h.kf.upto hb h.hf
  rd7 := h.rd7.same (Same.of_below hb) fun b o e _ => by have := h.hg _ e; have := h.hgd; simp only at *; omega
  k18 := h.k18.upto hb h.h18
  own18 := h.own18.keep fun b _ e => hb.block b (h.hown b e)
  rd2 := h.rd2.same (Same.of_below hb) fun b o e hs => h.h2 b o e hs
  lat := h.lat.trans (hb.mono h.h1)
  hq := h.hq
  hf := h.hf
  hg := h.hg
  hgd := h.hgd
  h18 := h.h18
  hown := h.hown
  h2 := h.h2
  h1 := h.h1
section
variable {P : Program} {W : World}
theorem geqI {t : TypeId} {k : IntKind} {i j : Int} (h : i < j) : (binOp .geq t (.int k i) (.int k j)).run P W = .ok (.bool false) W := by
  have h1 : decide (j ≤ i) = false := decide_eq_false (by omega)
  go_simp
end
theorem loadParts {b o m c : Nat} {S : Option Addr} {W : World} (hc : W.cell? ⟨b, o, none⟩ = some (.slice S m c)) : (Instr.loadAt 85 (.pointer (some ⟨b, o, none⟩))).run Try.prog W = .ok (.slice S m c) W := by
  go_simp
theorem infoPart : (Try.prog.info? 88).map (·.size) = some 2 := by kernel_rfl
theorem idxParts {b n c i : Nat} (W : World) (h : i < n) : (Instr.indexAt 85 (.slice (some ⟨b, 0, none⟩) n c) (.int .i64 (i : Int))).run Try.prog W = .ok (.pointer (some ⟨b, i * 2, none⟩)) W := by
  have h1 : (i : Int) < (n : Int) := by omega
  have h2 : (0 : Int) ≤ (i : Int) := by omega
  have h3 := infoPart
  go_simp
theorem fieldPart0 {b o : Nat} (W : World) : (Instr.fieldAt 88 (.pointer (some ⟨b, o, none⟩)) 0).run Try.prog W = .ok (.pointer (some ⟨b, o, none⟩)) W := by
  go_simp
theorem fieldPart1 {b o : Nat} (W : World) : (Instr.fieldAt 88 (.pointer (some ⟨b, o, none⟩)) 1).run Try.prog W = .ok (.pointer (some ⟨b, o + 1, none⟩)) W := by
  go_simp
theorem KeepW.of_later {D : Nat → Prop} {x : Fr} {X Y : World} (h : Later X Y) : KeepW D x X Y := ⟨h.size, fun b hb _ _ => Below.block h b hb⟩
theorem KeepW.elem {D : Nat → Prop} {x : Fr} {g o : Nat} (W : World) (hA : x.A = some ⟨g, o, none⟩) (j : Nat) (v : Value) : KeepW D x W (W.setCell ⟨g, j, none⟩ v) := ⟨by simp [World.setCell], fun b hb _ ha => Below.heap_setCell W ⟨g, j, none⟩ v b (fun e => ha o (by rw [hA]; congr 2; exact e.symm))⟩
theorem loadU8 {b o : Nat} {x : Int} {W : World} (hc : W.cell? ⟨b, o, none⟩ = some (.int .u8 x)) : (Instr.loadAt 5 (.pointer (some ⟨b, o, none⟩))).run Try.prog W = .ok (.int .u8 x) W := by
  go_simp
theorem storeU8 {b o : Nat} {x y : Int} {W : World} (hc : W.cell? ⟨b, o, none⟩ = some (.int .u8 x)) (hf : W.frozen? ⟨b, o, none⟩ = false) : (Instr.storeAt 5 (.pointer (some ⟨b, o, none⟩)) (.int .u8 y)).run Try.prog W = .ok () (W.setCell ⟨b, o, none⟩ (.int .u8 y)) := by
  go_simp
theorem retM {F : Fence} {n : Nat} {P : Program} {fn : Func} {R : Ending → World → Prop} {T : Array Value} {w : World} {v : Value} (h : (results fn T).run P w = .ok v w) (hR : R (.returned v) w) : bodyPostM F n P fn R .ret { tmps := T, defers := [] } w := ⟨v, h, hR⟩
theorem leaveX2 {q D D' : Nat} {w X W : World} (hK : X.heap[D]? = some (.deferred (some []))) (hK' : X.heap[D']? = some (.deferred (some []))) (hb : Below w.heap.size w X) (k6 : Row W (q + 1) 4 #[.bool false]) (hL : Later X W) (hqD : q + 1 < D) (hqD' : q + 1 < D') (hq : w.heap.size ≤ q) :
    (W.setCell ⟨q + 1, 0, none⟩ (.bool true)).heap[D]? = some (.deferred (some [])) ∧ (W.setCell ⟨q + 1, 0, none⟩ (.bool true)).heap[D']? = some (.deferred (some [])) ∧
      (((W.setCell ⟨q + 1, 0, none⟩ (.bool true)).putObj D (.deferred none)).putObj D' (.deferred none)).cell? ⟨q + 1, 0, none⟩ = some (.bool true) ∧
      Below w.heap.size w (((W.setCell ⟨q + 1, 0, none⟩ (.bool true)).putObj D (.deferred none)).putObj D' (.deferred none)) := by
  have hs := hb.size
  have hs2 := hL.size
  have hB : Below w.heap.size w (W.setCell ⟨q + 1, 0, none⟩ (.bool true)) := (hb.trans (hL.mono hs)).setCell (p := ⟨q + 1, 0, none⟩) (by show w.heap.size ≤ q + 1; omega) _
  have key : ∀ E, q + 1 < E → X.heap[E]? = some (.deferred (some [])) → (W.setCell ⟨q + 1, 0, none⟩ (.bool true)).heap[E]? = some (.deferred (some [])) := fun E hE hKE =>
    (Below.heap_setCell W ⟨q + 1, 0, none⟩ _ E (by show E ≠ q + 1; omega)).trans ((Below.block hL E (Array.getElem?_eq_some_iff.1 hKE).1).trans hKE)
  have hB2 := hB.trans (below_put w.heap.size (W.setCell ⟨q + 1, 0, none⟩ (.bool true)) D (.deferred none) (by omega) hB.size)
  refine ⟨key D hqD hK, key D' hqD' hK', ?_, hB2.trans (below_put _ _ _ _ (by omega) hB2.size)⟩
  refine (World.cell?_of_block (w := (W.setCell ⟨q + 1, 0, none⟩ (.bool true)).putObj D (.deferred none)) (a := ⟨q + 1, 0, none⟩) (World.putObj_heap_other (by show q + 1 ≠ D'; omega))).trans ?_
  exact (World.cell?_of_block (w := W.setCell ⟨q + 1, 0, none⟩ (.bool true)) (a := ⟨q + 1, 0, none⟩) (World.putObj_heap_other (by show q + 1 ≠ D; omega))).trans (((k6.set 0 (.bool true)).cell 0).trans rfl)
/-- Left with two marks. -/
theorem leaveM2 {F : Fence} {n : Nat} {P : Program} {fn : Func} {R : Ending → World → Prop} {T : Array Value} {D D' : Nat} {w : World} {v : Value} (hne : D' ≠ D) (hD : w.heap[D]? = some (.deferred (some []))) (hD' : w.heap[D']? = some (.deferred (some [])))
    (h : (results fn T).run P ((w.putObj D (.deferred none)).putObj D' (.deferred none)) = .ok v ((w.putObj D (.deferred none)).putObj D' (.deferred none))) (hR : R (.returned v) ((w.putObj D (.deferred none)).putObj D' (.deferred none))) :
    bodyPostM F n P fn R .ret { tmps := T, defers := [{ target := .collected D, args := #[] }, { target := .collected D', args := #[] }] } w :=
  ⟨by simp, .inl ⟨_, _, rfl, run_takeDeferred hD, by simp, .inl ⟨_, _, rfl, run_takeDeferred ((World.putObj_heap_other hne).trans hD'), v, h, hR⟩⟩⟩
end Go.Proofs.Ytmipaacobioakaa
