/- A range over a function whose elements lie in memory: what an iterator may say of an element is said of the world that it is yielded in; the caller's invariant speaks of blocks that lay there ahead of the range; a round may change named blocks and the element's own. -/
import Derived.Test.YtcfhhljjknmniaaDoorMm19
set_option linter.unusedVariables false
set_option linter.unusedSimpArgs false
namespace Go.Proofs.YtcfhhljjknmniaaDoor
open Go.RowKit
/-- Speaks of blocks below B alone, and of none of C. -/
def Low {β : Type} (C : Nat → Prop) (B : Nat) (J : β → World → Prop) : Prop := ∀ s X Y, J s X → Same (fun k => k < B ∧ ¬ C k) X Y → J s Y
theorem Low.below {β : Type} {C : Nat → Prop} {B : Nat} {J : β → World → Prop} (h : Low C B J) {s : β} {X Y : World} (hs : J s X) (hb : Below B X Y) : J s Y := h s X Y hs ((Same.of_below hb).mono fun k hk => hk.1)
def SeqW {α : Type} (F : Fence) (n : Nat) (P : Program) (g : Nat) (lb : Array Value) (encs : α → Array Value) (Kp : α → World → World → Prop) (S Sp : List α → Prop) (Ok : List α → α → World → Prop) (C : Nat → Prop) (W : World) : Prop :=
  ∀ (l : Nat) (J Jx : List α → World → Prop) (W1 : World), Below W.heap.size W W1 → W.heap.size + 2 ≤ W1.heap.size → Low C W1.heap.size J → Low C W1.heap.size Jx →
    (∀ pre x X, J pre X → Ok pre x X → YieldAt F (n - 1) P l (encs x) X fun e Y => (e = .returned (.bool true) ∧ J (pre ++ [x]) Y ∧ Kp x X Y) ∨ (e = .returned (.bool false) ∧ Jx (pre ++ [x]) Y ∧ Kp x X Y)) →
    J [] W1 → CallsIn F n P g (#[.func (.yield l) #[] #[]] ++ lb) W1 fun e Y => (∃ v, e = .returned v) ∧ ((∃ xs, S xs ∧ J xs Y) ∨ ∃ pre, Sp pre ∧ Jx pre Y)
/-- How a round's body may be left. -/
def leftW {α : Type} (B : Nat) (Kp : World → World → Prop) (I : List α → World → Prop) (Ix : Code → List α → World → Prop) (xs : List α) (W : World) : Exit → Act → World → Prop
  | .normal, _, Y => KeepsFrom B W Y ∧ Kp W Y ∧ I xs Y
  | .ret, _, Y => KeepsFrom B W Y ∧ Kp W Y ∧ Ix .ret xs Y
  | .exit id, _, Y => KeepsFrom B W Y ∧ Kp W Y ∧ Ix (.exit id) xs Y
  | .goto t, _, Y => KeepsFrom B W Y ∧ Kp W Y ∧ Ix (.goto t) xs Y
  | .panic _, _, _ => False
  | .outgrown, _, _ => False
theorem below_put (B : Nat) (X : World) (l : Nat) (o : Obj) (hl : B ≤ l) (hs : B ≤ X.heap.size) : Below B X (X.putObj l o) :=
  (Below.refl B X).grown (grownBy_putObj' X l o) hs (fun k e => by cases e; exact hl)
section
variable {F : Fence} {n : Nat} {P : Program}
theorem wpIn_range_W {α : Type} {g : Operand} {ps : Array Tmp} {assign body : Code} {Q : Exit → Act → World → Prop} {a : Act} {w : World}
    (hro : F.round = none) (h1 : 1 ≤ n) {gf : Nat} {lb : Array Value} (hg : a.eval g = .func (.func gf) #[] lb) (hFg : F.fn gf) (eg : ∀ args w, (callFunc gf args).run P w = .ok (.enter gf args) w)
    {encs : α → Array Value} {Kp : α → World → World → Prop} {S Sp : List α → Prop} {Ok : List α → α → World → Prop} {C : Nat → Prop} {w0 : World} (hseq : SeqW F (n - 1) P gf lb encs Kp S Sp Ok C w0) (hC : ∀ r, C r → r < w.heap.size)
    (hKt : ∀ {x : α} {A B D : World}, Kp x A B → Kp x B D → Kp x A D) (hKb : ∀ (x : α) (W : World) (o : Obj), Kp x W (W.putObj (w.heap.size + 1) o)) (hb0 : Below w0.heap.size w0 w) (hps : ∀ x, (encs x).size = ps.size)
    (I : List α → World → Prop) (Ix : Code → List α → World → Prop) (hI : Low C w.heap.size I) (hIx : ∀ c, Low C w.heap.size (Ix c)) (h0 : I [] w)
    (Ax : List α → α → Act → World → Prop) (hAx : ∀ pre x a' W o, Ax pre x a' W → Ax pre x a' (W.putObj (w.heap.size + 1) o))
    (hassign : ∀ (l : Nat) (pre : List α) (x : α) (W : World) (K : Act → World → Prop), w.heap.size + 2 ≤ W.heap.size → I pre W → Ok pre x W → (∀ a' Y, KeepsFrom w.heap.size W Y → Kp x W Y → I pre Y → Ax pre x a' Y → K a' Y) →
      assign.wpIn (F.inRound l) (n - 1 - 1) P (Exit.then K (fun _ _ _ => False)) { tmps := (ps.zip (encs x)).foldl (fun t (p, v) => t.setIfInBounds p v) a.tmps, defers := [] } W)
    (hbody : ∀ (l : Nat) (pre : List α) (x : α) (a' : Act) (W : World), w.heap.size ≤ l → (∃ r, W.heap[l]? = some (.loop r)) → w.heap.size + 2 ≤ W.heap.size → I pre W → Ax pre x a' W → body.wpIn (F.inRound l) (n - 1 - 1) P (leftW w.heap.size (Kp x) I Ix (pre ++ [x]) W) a' W)
    (hdone : ∀ (D : Nat) (xs : List α) (W : World), w.heap.size ≤ D → S xs → I xs W → W.heap[D]? = some (.deferred (some [])) → Q .normal { a with defers := { target := .collected D, args := #[] } :: a.defers } W)
    (hstop : ∀ (D : Nat) (c : Code) (pre : List α) (W : World), w.heap.size ≤ D → Sp pre → Ix c pre W → W.heap[D]? = some (.deferred (some [])) → c.wpIn F n P Q { a with defers := { target := .collected D, args := #[] } :: a.defers } W) :
    (Code.rangeFunc g ps assign body).wpIn F n P Q a w := by
  refine wpIn_rangeFunc fun fn hfn => ?_
  rw [hro]
  have book1 : Booked (bookOf fn a.tmps ps assign body w.heap.size) w.heap.size .ready none ((w.alloc (.deferred (some []))).alloc (.loop (bookOf fn a.tmps ps assign body w.heap.size .ready none))) := by
    refine ⟨?_, (Below.heap_alloc _ _ _ (by simp)).trans (World.alloc_heap_new w _)⟩
    have := World.alloc_heap_new (w.alloc (.deferred (some []))) (.loop (bookOf fn a.tmps ps assign body w.heap.size .ready none))
    rwa [World.size_alloc] at this
  have hbw : Below w.heap.size w ((w.alloc (.deferred (some []))).alloc (.loop (bookOf fn a.tmps ps assign body w.heap.size .ready none))) :=
    (((Below.refl _ w).alloc (Nat.le_refl _) _).alloc (by simp) _)
  have hb1 : Below w0.heap.size w0 ((w.alloc (.deferred (some []))).alloc (.loop (bookOf fn a.tmps ps assign body w.heap.size .ready none))) := hb0.trans (hbw.mono hb0.size)
  have hi1 := hI.below h0 hbw
  have hsz1 : ((w.alloc (.deferred (some []))).alloc (.loop (bookOf fn a.tmps ps assign body w.heap.size .ready none))).heap.size = w.heap.size + 2 := by simp
  have henter := run_enterLoop_outer (P := P) (w := w) fn a.tmps ps assign body
  generalize hW1 : (w.alloc (.deferred (some []))).alloc (.loop (bookOf fn a.tmps ps assign body w.heap.size .ready none)) = W1 at book1 hb1 hi1 hsz1
  refine ⟨w.heap.size + 1, [{ target := .collected w.heap.size, args := #[] }], W1, { target := .fn (.func gf) lb, args := #[.func (.yield (w.heap.size + 1)) #[] #[]] }, W1, gf,
    #[.func (.yield (w.heap.size + 1)) #[] #[]] ++ lb, W1, ?_, ?_, ?_, ?_, fun _ => h1, ?_⟩
  · rw [← hW1]; exact henter
  · simp only [resolve, hg]; simp [go_sem]
  · intro f' hf'; simp [Target.leads] at hf'; subst hf'; exact hFg
  · simp [invoke, go_sem, eg]
  clear henter hW1 hbw
  have hput : ∀ {s : List α} {X : World} (o : Obj), w.heap.size ≤ X.heap.size → I s X → I s (X.putObj (w.heap.size + 1) o) := fun o hs h => hI.below h (below_put _ _ _ _ (by omega) hs)
  have hputx : ∀ {c : Code} {s : List α} {X : World} (o : Obj), w.heap.size ≤ X.heap.size → Ix c s X → Ix c s (X.putObj (w.heap.size + 1) o) := fun o hs h => (hIx _).below h (below_put _ _ _ _ (by omega) hs)
  have hbook : ∀ {st : LoopState} {pe : Option Code} {X Y : World}, Booked (bookOf fn a.tmps ps assign body w.heap.size) w.heap.size st pe X → Same (fun k => k < W1.heap.size ∧ ¬ C k) X Y → Booked (bookOf fn a.tmps ps assign body w.heap.size) w.heap.size st pe Y := fun h hb => ⟨(hb.block _ ⟨by omega, fun h => by have := hC _ h; omega⟩).trans h.loop, (hb.block _ ⟨by omega, fun h => by have := hC _ h; omega⟩).trans h.defs⟩
  have hbs : ∀ {st : LoopState} {pe : Option Code} {X : World}, Booked (bookOf fn a.tmps ps assign body w.heap.size) w.heap.size st pe X → w.heap.size + 2 ≤ X.heap.size := fun h => by have := (Array.getElem?_eq_some_iff.1 h.loop).1; omega
  refine (hseq (w.heap.size + 1) (fun pre W => I pre W ∧ Booked (bookOf fn a.tmps ps assign body w.heap.size) w.heap.size .ready none W)
    (fun pre W => ∃ c, Ix c pre W ∧ Booked (bookOf fn a.tmps ps assign body w.heap.size) w.heap.size .done (some c) W) W1 hb1 (by have := hb0.size; omega)
    (fun s X Y hs hb => ⟨hI _ _ _ hs.1 (hb.mono fun k hk => ⟨by have := hk.1; omega, hk.2⟩), hbook hs.2 hb⟩)
    (fun s X Y hs hb => by obtain ⟨c, hc, hk⟩ := hs; exact ⟨c, hIx c _ _ _ hc (hb.mono fun k hk => ⟨by have := hk.1; omega, hk.2⟩), hbook hk hb⟩)
    (fun pre x X hX hok => ?_) ⟨hi1, book1⟩).mono ?_
  · obtain ⟨hi, hbk⟩ := hX
    refine ⟨fn, _, assign, body, run_yield (P := P) (args := encs x) hbk.loop (hps x), roundIn_of_wpIn hfn (hassign _ pre x X _ (hbs hbk) hi hok ?_)⟩
    intro a' Y hkf hkp hiY hax
    have hbY := hbk.keeps hkf
    refine ⟨_, run_beginRound hbY.loop rfl, ?_⟩
    have hbZ : Booked (bookOf fn a.tmps ps assign body w.heap.size) w.heap.size .busy none (Y.putObj (w.heap.size + 1) (.loop { bookOf fn a.tmps ps assign body w.heap.size .ready none with state := .busy })) := hbY.turn
    refine wpIn_mono (hbody _ pre x a' _ (by omega) ⟨_, hbZ.loop⟩ (hbs hbZ) (hput _ (by have := hbs hbY; omega) hiY) (hAx pre x a' _ _ hax)) ?_
    have fin : ∀ (jump : Option Code) (Z : World), KeepsFrom w.heap.size (Y.putObj (w.heap.size + 1) (.loop { bookOf fn a.tmps ps assign body w.heap.size .ready none with state := .busy })) Z →
        (Instr.endRound (w.heap.size + 1) jump).run P Z = .ok (.bool jump.isNone) (Z.putObj (w.heap.size + 1) (.loop (bookOf fn a.tmps ps assign body w.heap.size (if jump.isNone then .ready else .done) jump))) ∧
        Booked (bookOf fn a.tmps ps assign body w.heap.size) w.heap.size .busy none Z := fun jump Z hkZ =>
      ⟨run_endRound (P := P) jump (hbZ.keeps hkZ).loop, hbZ.keeps hkZ⟩
    rintro e a3 Z hp
    cases e with
    | normal =>
      obtain ⟨hk3, hkp3, hi3⟩ := hp
      obtain ⟨hr, hb3⟩ := fin none Z hk3
      have hzs := hbs hb3
      exact ⟨_, _, hr, .inl ⟨rfl, ⟨hput _ (by omega) hi3, hb3.turn⟩, hKt hkp (hKt (hKt (hKb _ _ _) hkp3) (hKb _ _ _))⟩⟩
    | ret =>
      obtain ⟨hk3, hkp3, hi3⟩ := hp
      obtain ⟨hr, hb3⟩ := fin (some .ret) Z hk3
      have hzs := hbs hb3
      exact ⟨_, _, hr, .inr ⟨rfl, ⟨.ret, hputx _ (by omega) hi3, hb3.turn⟩, hKt hkp (hKt (hKt (hKb _ _ _) hkp3) (hKb _ _ _))⟩⟩
    | exit id =>
      obtain ⟨hk3, hkp3, hi3⟩ := hp
      obtain ⟨hr, hb3⟩ := fin (some (.exit id)) Z hk3
      have hzs := hbs hb3
      exact ⟨_, _, hr, .inr ⟨rfl, ⟨.exit id, hputx _ (by omega) hi3, hb3.turn⟩, hKt hkp (hKt (hKt (hKb _ _ _) hkp3) (hKb _ _ _))⟩⟩
    | goto t =>
      obtain ⟨hk3, hkp3, hi3⟩ := hp
      obtain ⟨hr, hb3⟩ := fin (some (.goto t)) Z hk3
      have hzs := hbs hb3
      exact ⟨_, _, hr, .inr ⟨rfl, ⟨.goto t, hputx _ (by omega) hi3, hb3.turn⟩, hKt hkp (hKt (hKt (hKb _ _ _) hkp3) (hKb _ _ _))⟩⟩
    | panic ch => exact hp.elim
    | outgrown => exact hp.elim
  · rintro e W2 ⟨⟨v, rfl⟩, (⟨xs, hS, hi, hbk⟩ | ⟨pre, hSp, c, hi, hbk⟩)⟩
    · have hzs := hbs hbk
      exact ⟨none, _, run_endLoop (P := P) hbk.loop (by simp [bookOf]), hdone _ xs _ (Nat.le_refl _) hS (hput _ (by omega) hi) ((World.putObj_heap_other (by omega)).trans hbk.defs)⟩
    · have hzs := hbs hbk
      exact ⟨some c, _, run_endLoop (P := P) hbk.loop (by simp [bookOf]), hstop _ c pre _ (Nat.le_refl _) hSp (hputx _ (by omega) hi) ((World.putObj_heap_other (by omega)).trans hbk.defs)⟩
end
/-- A round that a fence lets in goes into a round of another loop as it is. -/
theorem YieldAt.inRound {m k l l' : Nat} {P : Program} {args : Array Value} {W : World} {R : Ending → World → Prop} (h : YieldAt Fence.wide m P l args W R) : YieldAt (Fence.wide.inRound l') k P l args W R := by
  obtain ⟨fn, tmps, assign, body, h1, h2⟩ := h
  exact ⟨fn, tmps, assign, body, h1, h2.1, fun c cs _ => h2.2 c cs (room_wide _)⟩
end Go.Proofs.YtcfhhljjknmniaaDoor
