/- A region with one operation (the pivot) that may write; all others make known values in whatever order; those that the pivot waits for come up ahead of it. -/
import Derived.Test.YthabgfghogdkcaaDoorSb5
set_option linter.unusedVariables false
set_option linter.unusedSimpArgs false
namespace Go.Proofs.YthabgfghogdkcaaDoor
open Go.RowKit
section
variable {P : Program} {Q : Exit → Act → World → Prop}
/-- What is known as an operation comes up: x: the pivot's value, if it has run (d). -/
structure EnvP (ops : Array Oper) (a0 : Act) (p : Nat) (c : Nat → Value) (A : World → Prop) (B : Value → World → Prop) (i : Nat) (a : Act) (W : World) (d : Bool) (x : Value) : Prop where
  keep : ∀ y, keepsB ops i y = true → a.eval y = a0.eval y
  val : ∀ j t, waits ops i j = true → dstOf ops j = some t → (j == p) = false → a.eval (.tmp t) = c j
  piv : ∀ t, waits ops i p = true → dstOf ops p = some t → a.eval (.tmp t) = x
  ahead : d = false → A W
  behind : d = true → B x W
  waits : waits ops i p = true → d = true
  early : Go.Proofs.YthabgfghogdkcaaDoor.waits ops p i = true → d = false
  defers : a.defers = a0.defers
theorem EnvP.both {ops : Array Oper} {a0 : Act} {p : Nat} {c : Nat → Value} {A : World → Prop} {B : Value → World → Prop} {i : Nat} {a : Act} {W : World} {d : Bool} {x : Value} (he : EnvP ops a0 p c A B i a W d x) {C : World → Prop} (hA : ∀ W, A W → C W) (hB : ∀ x W, B x W → C W) : C W := by
  cases d
  · exact hA _ (he.ahead rfl)
  · exact hB _ _ (he.behind rfl)
def PivStep (P : Program) (ops : Array Oper) (Q : Exit → Act → World → Prop) (a0 : Act) (p : Nat) (c : Nat → Value) (A : World → Prop) (B : Value → World → Prop) (i : Nat) (o : Oper) : Prop :=
  match i == p with
  | true => ∀ a W, EnvP ops a0 p c A B i a W false undef → A W → o.guard = none ∧ o.wp P a W (fun a' W' => ∃ v, a' = a.put o.dst v ∧ B v W') Q
  | false => ∀ a W d x, EnvP ops a0 p c A B i a W d x → StepOk P ops Q o a W (fun v W' => v = c i)
theorem wpIn_region_pivot {F : Fence} (hF : Wide F) {n : Nat} {id : Nat} {o : Oper} {os : List Oper} {a0 : Act} {w : World} (p : Nat) (cs : List Value) (A : World → Prop) (B : Value → World → Prop) (hA : ∀ W W', Later W W' → A W → A W') (hB : ∀ x W W', Later W W' → B x W → B x W') (hA0 : A w) (hm : P.follows .mixedOrders = true) (hp : plainAll (o :: os).toArray = true) (hd : dstsB (o :: os).toArray = true) (hb : backB (o :: os).toArray = true) (ha : ancB (o :: os).toArray = true) (hin : dstIn (o :: os).toArray a0.tmps.size = true) (hg : (lastL o os).guard = none) (hpl : decide (p < (initL o os).length) = true) (hself : waits (o :: os).toArray p p = false)
    (step : AllFrom (PivStep P (o :: os).toArray Q a0 p (fun i => cs.getD i undef) A B) 0 (initL o os))
    (fin : ∀ xs W x, B x W → (∀ j, j < (initL o os).length → xs j = if j = p then x else cs.getD j undef) → (∀ y, keepsB (o :: os).toArray (initL o os).length y = true → (putL (initL o os) 0 xs a0).eval y = a0.eval y) → (∀ j t, j < (initL o os).length → dstOf (o :: os).toArray j = some t → (putL (initL o os) 0 xs a0).eval (.tmp t) = xs j) →
      LastOk P (lastL o os) (putL (initL o os) 0 xs a0) W Q) : (Code.region id (o :: os).toArray true).wpIn F n P Q a0 w := by
  have hpl' := of_decide_eq_true hpl
  refine wpIn_region_lastY hF (fun f xs W => (∀ i, f i = true → i ≠ p → xs i = cs.getD i undef) ∧ (f p = false → A W) ∧ (f p = true → B (xs p) W) ∧ (∀ j, waits (o :: os).toArray p j = true → f p = true → f j = true)) ⟨fun i h => by simp at h, fun _ => hA _ _ ((Later.refl w).drew) hA0, fun h => by simp at h, fun j _ h => by simp at h⟩ hm hp hd hb ha hin hg ?_ ?_
  · have key : ∀ (l : List Oper) (i : Nat), AllFrom (PivStep P (o :: os).toArray Q a0 p (fun i => cs.getD i undef) A B) i l → AllFrom (fun i o' => ∀ a W f xs, ((∀ i, f i = true → i ≠ p → xs i = cs.getD i undef) ∧ (f p = false → A W) ∧ (f p = true → B (xs p) W) ∧ (∀ j, waits (o :: os).toArray p j = true → f p = true → f j = true)) → EnvY (o :: os).toArray a0 f i a xs → StepOkY P (o :: os).toArray Q o' a W (fun v W' => (∀ j, updB f i j = true → j ≠ p → upd xs i v j = cs.getD j undef) ∧ (updB f i p = false → A W') ∧ (updB f i p = true → B (upd xs i v p) W') ∧ (∀ j, waits (o :: os).toArray p j = true → updB f i p = true → updB f i j = true))) i l := by
      intro l
      induction l with
      | nil => intro i h; exact h
      | cons o' l ih =>
        intro i h
        obtain ⟨h1, h2⟩ := h
        refine ⟨fun a W f xs hI he => ?_, ih _ h2⟩
        obtain ⟨hc, ha1, hb1, hpre⟩ := hI
        by_cases hip : i = p
        · subst hip
          have h3 : ∀ a W, EnvP (o :: os).toArray a0 i (fun i => cs.getD i undef) A B i a W false undef → A W → o'.guard = none ∧ o'.wp P a W (fun a' W' => ∃ v, a' = a.put o'.dst v ∧ B v W') Q := by
            unfold PivStep at h1
            rw [beq_self_eq_true] at h1
            exact h1
          have hf := he.todo
          obtain ⟨hg', h4⟩ := h3 a W ⟨he.keep, fun j t hw ht hj => (he.val j t hw ht).trans (hc j (he.done j hw) (by simpa using hj)), fun t hw _ => (by rw [hself] at hw; cases hw), fun _ => ha1 hf, (by intro h; cases h), (by intro hw; rw [hself] at hw; cases hw), fun _ => rfl, he.defers⟩ (ha1 hf)
          refine stepOkY_want hg' (Oper.wp_mono (fun a' W' ⟨v, e, hv⟩ => ⟨v, e, fun j hj hjp => ?_, fun h => ?_, fun _ => ?_, fun j hw _ => ?_⟩) h4)
          · rw [upd_ne xs v hjp]
            refine hc j ?_ hjp
            simpa [updB, hjp] using hj
          · simp [updB] at h
          · rw [upd_self]; exact hv
          · simp [updB, he.done j hw]
        · have h3 : ∀ a W d x, EnvP (o :: os).toArray a0 p (fun i => cs.getD i undef) A B i a W d x → StepOk P (o :: os).toArray Q o' a W (fun v W' => v = cs.getD i undef) := by
            unfold PivStep at h1
            rw [show (i == p) = false by simpa using hip] at h1
            exact h1
          have h4 := h3 a W (f p) (xs p) ⟨he.keep, fun j t hw ht hj => (he.val j t hw ht).trans (hc j (he.done j hw) (by simpa using hj)), fun t hw ht => he.val p t hw ht, ha1, hb1, fun hw => he.done p hw, (fun hw => by
            cases h : f p with
            | false => rfl
            | true => exact absurd ((hpre i hw h).symm.trans he.todo) (by decide)), he.defers⟩
          have hpi : p ≠ i := fun e => hip e.symm
          have hR : ∀ v W', Later W W' → v = cs.getD i undef → (∀ j, updB f i j = true → j ≠ p → upd xs i v j = cs.getD j undef) ∧ (updB f i p = false → A W') ∧ (updB f i p = true → B (upd xs i v p) W') ∧ (∀ j, waits (o :: os).toArray p j = true → updB f i p = true → updB f i j = true) := fun v W' hL hv => by
            refine ⟨fun j hj hjp => ?_, fun h => ?_, fun h => ?_, fun j hw h => ?_⟩
            · by_cases e : j = i
              · subst e; rw [upd_self]; exact hv
              · rw [upd_ne xs v e]
                exact hc j (by simpa [updB, e] using hj) hjp
            · exact hA _ _ hL (ha1 (by simpa [updB, hpi] using h))
            · rw [upd_ne xs v hpi]
              exact hB _ _ _ hL (hb1 (by simpa [updB, hpi] using h))
            · have := hpre j hw (by simpa [updB, hpi] using h)
              simp [updB, this]
          unfold StepOk at h4
          unfold StepOkY
          split
          · rename_i hw
            rw [if_pos hw] at h4
            exact Oper.wp_mono (fun a' W' ⟨v, e, hL, hv⟩ => ⟨v, e, hR v W' hL hv⟩) h4
          · rename_i hw
            rw [if_neg hw] at h4
            exact hR _ _ (Later.refl W) h4
    exact key _ _ step
  · intro f xs W hI hall _ hk hget
    obtain ⟨hc, _, hb1, _⟩ := hI
    refine fin xs W (xs p) (hb1 (hall p hpl')) (fun j hj => ?_) hk hget
    by_cases e : j = p
    · rw [if_pos e, e]
    · rw [if_neg e]; exact hc j (hall j hj) e
end
end Go.Proofs.YthabgfghogdkcaaDoor
