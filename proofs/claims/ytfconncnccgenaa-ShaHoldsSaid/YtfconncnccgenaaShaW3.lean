/- Walks: what goes over the words of a block. -/
import Derived.Test.YtfconncnccgenaaShaW2
import Derived.Test.YtfconncnccgenaaRange
set_option linter.unusedVariables false
set_option linter.unusedSimpArgs false
namespace Go.Proofs.Ytfconncnccgenaa
open Go.RowKit Go.Shelf
attribute [local go_sem] Oper.semAt_some
/-- A block that holds a function that rotates; S: blocks that stay. -/
def IsFn (w : World) (b s : Nat) (ps : List Nat) (S : Nat → Prop) : Prop := ∃ v bs bp bl, Row w b 86 #[v] ∧ IsRot w v s ps bs bp bl ∧ S b ∧ S bs ∧ S bp ∧ S bl
theorem IsFn.keep {w w' : World} {b s : Nat} {ps : List Nat} {S : Nat → Prop} (h : IsFn w b s ps S) (hk : ∀ k, S k → w'.heap[k]? = w.heap[k]?) : IsFn w' b s ps S := by
  obtain ⟨v, bs, bp, bl, h1, h2, h3, h4, h5, h6⟩ := h
  exact ⟨v, bs, bp, bl, (hk b h3).trans h1, h2.keep (hk bs h4) (hk bp h5) (hk bl h6), h3, h4, h5, h6⟩
theorem IsFn.sub {w : World} {b s : Nat} {ps : List Nat} {S S' : Nat → Prop} (h : IsFn w b s ps S) (hk : ∀ k, S k → k < w.heap.size → S' k) : IsFn w b s ps S' := by
  obtain ⟨v, bs, bp, bl, h1, h2, h3, h4, h5, h6⟩ := h
  exact ⟨v, bs, bp, bl, h1, h2, hk b h3 h1.lt, hk bs h4 h2.sh.lt, hk bp h5 h2.pl.lt, hk bl h6 h2.li.lt⟩
/-- What makes the words: the blocks that its function holds. -/
structure AllFn (w : World) (bm bq bn bf : Nat) (S : Nat → Prop) : Prop where
  sq : S bq
  q : Row w bq 101 #[.pointer (some ⟨bm, 0, none⟩)]
  n : IsFn w bn 3 [7, 18] S
  f : IsFn w bf 10 [17, 19] S
theorem AllFn.keep {w w' : World} {bm bq bn bf : Nat} {S : Nat → Prop} (h : AllFn w bm bq bn bf S) (hk : ∀ k, S k → w'.heap[k]? = w.heap[k]?) : AllFn w' bm bq bn bf S :=
  ⟨h.sq, (hk _ h.sq).trans h.q, h.n.keep hk, h.f.keep hk⟩
theorem Row.newAt {W : World} {g : Nat} {t : TypeId} {cs : Array Value} (h : W.heap.size = g) : Row (W.alloc (.cells cs t)) g t cs := by subst h; exact Row.new W t cs
theorem all_any (bm : Nat) (w : World) : Calls Try.prog 52 #[.pointer (some ⟨bm, 0, none⟩)] w fun e w' => ∃ bq bn bf, e = .returned (.func (.func 60) #[] #[.pointer (some ⟨bq, 0, none⟩), .pointer (some ⟨bn, 0, none⟩), .pointer (some ⟨bf, 0, none⟩)]) ∧ AllFn w' bm bq bn bf (fun k => w.heap.size ≤ k) ∧ Below w.heap.size w w' := by
  go_enter Try.func52, Try.ntmps52
  go_wp2_with (first | (go_at_call 51; refine (rotations_any _ _ _ _).mono ?_; rintro e w' ⟨rfl, rfl⟩))
  go_ret
  refine ⟨w.heap.size, _, _, rfl, ⟨Nat.le_refl _, ?_, ⟨_, w.heap.size + 1 + 1, w.heap.size + 1 + 1 + 1, w.heap.size + 1, ?_, ⟨rfl, ?_, ?_, ?_⟩, ?_, ?_, ?_, ?_⟩, ⟨_, w.heap.size + 1 + 1 + 1 + 1 + 1, w.heap.size + 1 + 1 + 1 + 1 + 1 + 1, w.heap.size + 1 + 1 + 1 + 1, ?_, ⟨rfl, ?_, ?_, ?_⟩, ?_, ?_, ?_, ?_⟩⟩, ?_⟩
  all_goals first
    | omega
    | ((repeat (first | exact Row.newAt (by simp only [World.size_alloc]) | refine Row.alloc ?_ _)); done)
    | (repeat (first | exact Below.refl _ _ | refine Below.alloc ?_ (by first | exact Nat.le_refl _ | (simp only [World.size_alloc]; omega)) _))
end Go.Proofs.Ytfconncnccgenaa
