/- A range over a function whose iterator keeps memory of its own between two rounds: as wpIn_range_C, but what the round's record does to the world is told of a block that holds no cells. -/
import Derived.Test.YthabgfghogdkcaaDoorSd1
set_option linter.unusedVariables false
set_option linter.unusedSimpArgs false
namespace Go.Proofs.YthabgfghogdkcaaDoor
open Go.RowKit
section
variable {F : Fence} {n : Nat} {P : Program}
theorem wpIn_range_D {α : Type} {g : Operand} {ps : Array Tmp} {assign body : Code} {Q : Exit → Act → World → Prop} {a : Act} {w : World}
    (hro : F.round = none) (h1 : 1 ≤ n) {gf : Nat} {lb : Array Value} (hg : a.eval g = .func (.func gf) #[] lb) (hFg : F.fn gf) (eg : ∀ args w, (callFunc gf args).run P w = .ok (.enter gf args) w)
    {encs : α → Array Value} {Kp : World → World → Prop} {S Sp : List α → Prop} {Ok : List α → α → Prop} {C : Nat → Prop} {w0 : World} (hseq : SeqC F (n - 1) P gf lb encs Kp S Sp Ok C w0)
    (hC : ∀ r, C r → r < w.heap.size) (hKt : ∀ {A B D : World}, Kp A B → Kp B D → Kp A D) (hKb : ∀ (W : World) (l : Nat) (o ob : Obj), w.heap.size ≤ l → W.heap[l]? = some ob → ob.isCells = false → Kp W (W.putObj l o)) (hb0 : Below w0.heap.size w0 w) (hps : ∀ x, (encs x).size = ps.size)
    (I : List α → World → Prop) (Ix : Code → List α → World → Prop) (hI : Stab w.heap.size C I) (hIx : ∀ c, Stab w.heap.size C (Ix c)) (h0 : I [] w)
    (Ax : List α → α → Act → World → Prop) (hAx : ∀ pre x a', Stab w.heap.size C (fun (_ : Unit) W => Ax pre x a' W))
    (hassign : ∀ (l : Nat) (pre : List α) (x : α) (W : World) (K : Act → World → Prop), I pre W → Ok pre x → (∀ a' Y, KeepsFrom w.heap.size W Y → Kp W Y → I pre Y → Ax pre x a' Y → K a' Y) →
      assign.wpIn (F.inRound l) (n - 1 - 1) P (Exit.then K (fun _ _ _ => False)) { tmps := (ps.zip (encs x)).foldl (fun t (p, v) => t.setIfInBounds p v) a.tmps, defers := [] } W)
    (hbody : ∀ (l : Nat) (pre : List α) (x : α) (a' : Act) (W : World), w.heap.size ≤ l → (∃ r, W.heap[l]? = some (.loop r)) → I pre W → Ok pre x → Ax pre x a' W → body.wpIn (F.inRound l) (n - 1 - 1) P (leftC w.heap.size Kp I Ix (pre ++ [x]) W) a' W)
    (hdone : ∀ (D : Nat) (xs : List α) (W : World), w.heap.size ≤ D → S xs → I xs W → W.heap[D]? = some (.deferred (some [])) → Q .normal { a with defers := { target := .collected D, args := #[] } :: a.defers } W)
    (hstop : ∀ (D : Nat) (c : Code) (pre : List α) (W : World), w.heap.size ≤ D → Sp pre → Ix c pre W → W.heap[D]? = some (.deferred (some [])) → c.wpIn F n P Q { a with defers := { target := .collected D, args := #[] } :: a.defers } W) :
    (Code.rangeFunc g ps assign body).wpIn F n P Q a w := by
  refine wpIn_rangeFunc fun fn hfn => ?_
  rw [hro]
  have book1 : Booked (bookOf fn a.tmps ps assign body w.heap.size) w.heap.size .ready none ((w.alloc (.deferred (some []))).alloc (.loop (bookOf fn a.tmps ps assign body w.heap.size .ready none))) := by
    refine ⟨?_, (Below.heap_alloc _ _ _ (by simp)).trans (World.alloc_heap_new w _)⟩
    have := World.alloc_heap_new (w.alloc (.deferred (some []))) (.loop (bookOf fn a.tmps ps assign body w.heap.size .ready none))
    rwa [World.size_alloc] at this
  have hb1 : Below w0.heap.size w0 ((w.alloc (.deferred (some []))).alloc (.loop (bookOf fn a.tmps ps assign body w.heap.size .ready none))) :=
    hb0.trans ((((Below.refl _ w).alloc (Nat.le_refl _) _).alloc (by simp) _).mono hb0.size)
  have hi1 := hI.alloc (.loop (bookOf fn a.tmps ps assign body w.heap.size .ready none)) (hI.alloc (.deferred (some [])) h0)
  have henter := run_enterLoop_outer (P := P) (w := w) fn a.tmps ps assign body
  generalize hW1 : (w.alloc (.deferred (some []))).alloc (.loop (bookOf fn a.tmps ps assign body w.heap.size .ready none)) = W1 at book1 hb1 hi1
  refine ⟨w.heap.size + 1, [{ target := .collected w.heap.size, args := #[] }], W1, { target := .fn (.func gf) lb, args := #[.func (.yield (w.heap.size + 1)) #[] #[]] }, W1, gf,
    #[.func (.yield (w.heap.size + 1)) #[] #[]] ++ lb, W1, ?_, ?_, ?_, ?_, fun _ => h1, ?_⟩
  · rw [← hW1]; exact henter
  · simp only [resolve, hg]; simp [go_sem]
  · intro f' hf'; simp [Target.leads] at hf'; subst hf'; exact hFg
  · simp [invoke, go_sem, eg]
  clear henter hW1
  refine (hseq (w.heap.size + 1) (fun pre W => I pre W ∧ Booked (bookOf fn a.tmps ps assign body w.heap.size) w.heap.size .ready none W)
    (fun pre W => ∃ c, Ix c pre W ∧ Booked (bookOf fn a.tmps ps assign body w.heap.size) w.heap.size .done (some c) W) W1 hb1
    (fun s X Y row hs hgr hr => ⟨hI.abC s X Y row hs.1 hgr hr, hs.2.grown hgr (fun r e => hC r (hr r e))⟩)
    (fun s X Y row hs hgr hr => by obtain ⟨c, hc, hk⟩ := hs; exact ⟨c, (hIx c).abC s X Y row hc hgr hr, hk.grown hgr (fun r e => hC r (hr r e))⟩)
    (fun pre x X hX hok => ?_) ⟨hi1, book1⟩).mono ?_
  · obtain ⟨hi, hbk⟩ := hX
    refine ⟨fn, _, assign, body, run_yield (P := P) (args := encs x) hbk.loop (hps x), roundIn_of_wpIn hfn (hassign _ pre x X _ hi hok ?_)⟩
    intro a' Y hkf hkp hiY hax
    have hbY := hbk.keeps hkf
    refine ⟨_, run_beginRound hbY.loop rfl, ?_⟩
    have hbZ : Booked (bookOf fn a.tmps ps assign body w.heap.size) w.heap.size .busy none (Y.putObj (w.heap.size + 1) (.loop { bookOf fn a.tmps ps assign body w.heap.size .ready none with state := .busy })) := hbY.turn
    refine wpIn_mono (hbody _ pre x a' _ (by omega) ⟨_, hbZ.loop⟩ (hI.put _ hiY (by omega) hbY.loop rfl) hok ((hAx pre x a').put (s := ()) _ hax (by omega) hbY.loop rfl)) ?_
    have fin : ∀ (jump : Option Code) (Z : World), KeepsFrom w.heap.size (Y.putObj (w.heap.size + 1) (.loop { bookOf fn a.tmps ps assign body w.heap.size .ready none with state := .busy })) Z →
        (Instr.endRound (w.heap.size + 1) jump).run P Z = .ok (.bool jump.isNone) (Z.putObj (w.heap.size + 1) (.loop (bookOf fn a.tmps ps assign body w.heap.size (if jump.isNone then .ready else .done) jump))) ∧
        Booked (bookOf fn a.tmps ps assign body w.heap.size) w.heap.size .busy none Z := fun jump Z hkZ =>
      ⟨run_endRound (P := P) jump (hbZ.keeps hkZ).loop, hbZ.keeps hkZ⟩
    rintro e a3 Z hp
    cases e with
    | normal =>
      obtain ⟨hk3, hkp3, hi3⟩ := hp
      obtain ⟨hr, hb3⟩ := fin none Z hk3
      exact ⟨_, _, hr, .inl ⟨rfl, ⟨hI.put _ hi3 (by omega) hb3.loop rfl, hb3.turn⟩, hKt hkp (hKt (hKt (hKb _ _ _ _ (by omega) hbY.loop rfl) hkp3) (hKb _ _ _ _ (by omega) hb3.loop rfl))⟩⟩
    | ret =>
      obtain ⟨hk3, hi3⟩ := hp
      obtain ⟨hr, hb3⟩ := fin (some .ret) Z hk3
      exact ⟨_, _, hr, .inr ⟨rfl, .ret, (hIx _).put _ hi3 (by omega) hb3.loop rfl, hb3.turn⟩⟩
    | exit id =>
      obtain ⟨hk3, hi3⟩ := hp
      obtain ⟨hr, hb3⟩ := fin (some (.exit id)) Z hk3
      exact ⟨_, _, hr, .inr ⟨rfl, .exit id, (hIx _).put _ hi3 (by omega) hb3.loop rfl, hb3.turn⟩⟩
    | goto t =>
      obtain ⟨hk3, hi3⟩ := hp
      obtain ⟨hr, hb3⟩ := fin (some (.goto t)) Z hk3
      exact ⟨_, _, hr, .inr ⟨rfl, .goto t, (hIx _).put _ hi3 (by omega) hb3.loop rfl, hb3.turn⟩⟩
    | panic ch => exact hp.elim
    | outgrown => exact hp.elim
  · rintro e W2 ⟨⟨v, rfl⟩, (⟨xs, hS, hi, hbk⟩ | ⟨pre, hSp, c, hi, hbk⟩)⟩
    · exact ⟨none, _, run_endLoop (P := P) hbk.loop (by simp [bookOf]), hdone _ xs _ (Nat.le_refl _) hS (hI.put _ hi (by omega) hbk.loop rfl) ((World.putObj_heap_other (by omega)).trans hbk.defs)⟩
    · exact ⟨some c, _, run_endLoop (P := P) hbk.loop (by simp [bookOf]), hstop _ c pre _ (Nat.le_refl _) hSp ((hIx c).put _ hi (by omega) hbk.loop rfl) ((World.putObj_heap_other (by omega)).trans hbk.defs)⟩
end
end Go.Proofs.YthabgfghogdkcaaDoor
