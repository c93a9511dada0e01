/- A region that draws its order, by what each operation yields: one obligation an operation, whatever the order. V i v W: what holds of the value that operation i has yielded; it must stay true in later worlds. -/
import Derived.Test.YtfconncnccgenaaLater
import Derived.Orders
import Derived.Shelf.Abstract
set_option linter.unusedVariables false
set_option linter.unusedSimpArgs false
namespace Go.Proofs.Ytfconncnccgenaa
open Go.RowKit

section
variable {P : Program} {ops : Array Oper} {Q : Exit → Act → World → Prop}
/-- Operation i waits for operation j. -/
def waits (ops : Array Oper) (i j : Nat) : Bool := match ops[i]? with
  | some o => o.after.any fun e => Region.binds .any e && e.on == j
  | none => false
def dstOf (ops : Array Oper) (i : Nat) : Option Tmp := match ops[i]? with
  | some o => o.dst
  | none => none
def dstsB (ops : Array Oper) : Bool := (List.range ops.size).all fun i => (List.range ops.size).all fun j => i == j || (match dstOf ops i with
  | some d => !(dstOf ops j == some d)
  | none => true)
def backB (ops : Array Oper) : Bool := (List.range ops.size).all fun i => match ops[i]? with
  | some o => o.after.all fun e => !Region.binds .any e || decide (e.on < i)
  | none => true
def dstIn (ops : Array Oper) (n : Nat) : Bool := (List.range ops.size).all fun i => match dstOf ops i with
  | some d => decide (d < n)
  | none => true
theorem dsts_ne (h : dstsB ops = true) {i j : Nat} (hi : i < ops.size) (hj : j < ops.size) (hne : i ≠ j) {d : Tmp} (hd : dstOf ops i = some d) : dstOf ops j ≠ some d := by
  unfold dstsB at h
  rw [List.all_eq_true] at h
  have h1 := h i (List.mem_range.2 hi)
  rw [List.all_eq_true] at h1
  have h2 := h1 j (List.mem_range.2 hj)
  rw [hd] at h2
  intro e
  rw [e] at h2
  simp [hne] at h2

/-- The activation in which the listed operations have yielded. -/
def laid (ops : Array Oper) (a0 : Act) (listed : Array Bool) (xs : Nat → Value) : Nat → Act
  | 0 => a0
  | k + 1 => if listed.getD k false then (laid ops a0 listed xs k).put (dstOf ops k) (xs k) else laid ops a0 listed xs k
theorem laid_congr {a0 : Act} {l l' : Array Bool} {xs ys : Nat → Value} : ∀ (k : Nat), (∀ j, j < k → l.getD j false = l'.getD j false ∧ xs j = ys j) → laid ops a0 l xs k = laid ops a0 l' ys k
  | 0, _ => rfl
  | k + 1, h => by rw [laid, laid, laid_congr k (fun j hj => h j (by omega)), (h k (by omega)).1, (h k (by omega)).2]
theorem laid_put (hd : dstsB ops = true) {a0 : Act} {l : Array Bool} {xs : Nat → Value} {i : Nat} (v : Value) (hi : i < l.size) (hf : l.getD i false = false) : ∀ (k : Nat), k ≤ ops.size → i < k →
    (laid ops a0 l xs k).put (dstOf ops i) v = laid ops a0 (l.setIfInBounds i true) (fun j => if j = i then v else xs j) k
  | 0, _, h => absurd h (by omega)
  | k + 1, hk, h => by
    have hset : ∀ j, j ≠ i → (l.setIfInBounds i true).getD j false = l.getD j false := fun j hj => getD_set_ne false (fun e => hj e.symm)
    have hself : (l.setIfInBounds i true).getD i false = true := by simp [Array.getD, hi]
    by_cases e : i = k
    · subst e
      rw [laid, laid, hf, hself, if_neg (by simp), if_pos rfl, if_pos rfl]
      congr 1
      exact laid_congr i (fun j hj => ⟨(hset j (by omega)).symm, by rw [if_neg (by omega)]⟩)
    · have ih := laid_put hd (a0 := a0) (xs := xs) v hi hf k (by omega) (by omega)
      have hki : k ≠ i := fun e' => e e'.symm
      rw [laid, laid, hset k hki]
      cases hl : l.getD k false
      · simp only [Bool.false_eq_true, if_false]
        exact ih
      · simp only [if_true, if_neg hki]
        rw [Act.put_comm, ih]
        intro d hk'
        exact dsts_ne hd (i := k) (j := i) (by omega) (by omega) hki hk'
theorem laid_keep {a0 : Act} {l : Array Bool} {xs : Nat → Value} (x : Operand) : ∀ (k : Nat), (∀ j d, j < k → dstOf ops j = some d → l.getD j false = true → x ≠ .tmp d) → (laid ops a0 l xs k).eval x = a0.eval x
  | 0, _ => rfl
  | k + 1, h => by
    rw [laid]
    have ih := laid_keep (a0 := a0) (l := l) (xs := xs) x k (fun j d hj => h j d (by omega))
    split
    · rename_i hl
      rw [Act.eval_put (fun d hd => h k d (by omega) hd hl), ih]
    · exact ih
theorem laid_size {a0 : Act} {l : Array Bool} {xs : Nat → Value} : ∀ (k : Nat), (laid ops a0 l xs k).tmps.size = a0.tmps.size
  | 0 => rfl
  | k + 1 => by
    rw [laid]
    split
    · cases dstOf ops k <;> simp [Act.put, laid_size k]
    · exact laid_size k
theorem laid_get (hd : dstsB ops = true) {a0 : Act} {l : Array Bool} {xs : Nat → Value} {i : Nat} {t : Tmp} (ht : dstOf ops i = some t) (hl : l.getD i false = true) (hs : t < a0.tmps.size) : ∀ (k : Nat), k ≤ ops.size → i < k → (laid ops a0 l xs k).eval (.tmp t) = xs i
  | 0, _, h => absurd h (by omega)
  | k + 1, hk, h => by
    rw [laid]
    by_cases e : i = k
    · subst e
      rw [if_pos hl, ht]
      simp [Act.eval, Act.put, laid_size, hs]
    · have ih := laid_get hd (xs := xs) ht hl hs k (by omega) (by omega)
      split
      · rw [Act.eval_put, ih]
        intro d hk' e'
        injection e' with e'
        subst e'
        exact dsts_ne hd (i := k) (j := i) (by omega) (by omega) (fun e' => e e'.symm) hk' ht
      · exact ih

/-- What an operand's slot held ahead of the region it still holds when operation i comes up. -/
def keepsB (ops : Array Oper) (i : Nat) : Operand → Bool
  | .tmp t => (List.range ops.size).all fun j => !(dstOf ops j == some t) || j == i || waits ops j i
  | _ => true
/-- What is known when operation i comes up. -/
structure Env (ops : Array Oper) (a0 : Act) (V : Nat → Value → World → Prop) (i : Nat) (a : Act) (W : World) : Prop where
  keep : ∀ x, keepsB ops i x = true → a.eval x = a0.eval x
  get : ∀ j t, waits ops i j = true → dstOf ops j = some t → V j (a.eval (.tmp t)) W
/-- Operation o yields a value as it should. -/
def StepOk (P : Program) (ops : Array Oper) (Q : Exit → Act → World → Prop) (o : Oper) (a : Act) (W : World) (R : Value → World → Prop) : Prop :=
  if Region.wanted o (yielded ops a.tmps) then o.wp P a W (fun a' W' => ∃ v, a' = a.put o.dst v ∧ Later W W' ∧ R v W') Q else R undef W
structure Inv (ops : Array Oper) (a0 : Act) (w : World) (V : Nat → Value → World → Prop) (l : Array Bool) (a : Act) (W : World) : Prop where
  size : l.size = ops.size
  closed : ∀ i j, l.getD i false = true → waits ops i j = true → l.getD j false = true
  later : Later w W
  act : ∃ xs : Nat → Value, a = laid ops a0 l xs ops.size ∧ ∀ j, j < ops.size → l.getD j false = true → V j (xs j) W

theorem ready_nil (hb : backB ops = true) {l : Array Bool} (hs : l.size = ops.size) (h : Region.ready .any ops l = []) : ∀ i, i < ops.size → l.getD i false = true := by
  intro i
  induction i using Nat.strongRecOn with
  | _ i ih =>
    intro hi
    cases hl : l.getD i false
    · exfalso
      have : i ∈ Region.ready .any ops l := by
        refine mem_ready.2 ⟨?_, ops[i], Array.getElem?_eq_getElem hi, fun e he hbd => ?_⟩
        · have hi' : i < l.size := by omega
          simp [Array.getD, hi'] at hl ⊢
          exact hl
        · unfold backB at hb
          rw [List.all_eq_true] at hb
          have h1 := hb i (List.mem_range.2 hi)
          rw [Array.getElem?_eq_getElem hi] at h1
          simp only at h1
          rw [Array.all_eq_true_iff_forall_mem] at h1
          have h2 := h1 e he
          rw [hbd] at h2
          simp at h2
          exact ih e.on h2 (by omega)
      rw [h] at this
      cases this
    · rfl

/-- The activation in which all have yielded. -/
def putL : List Oper → Nat → (Nat → Value) → Act → Act
  | [], _, _, a => a
  | o :: os, k, xs, a => putL os (k + 1) xs (a.put o.dst (xs k))
theorem laid_all {a0 : Act} {l : Array Bool} {xs : Nat → Value} (hl : ∀ i, i < ops.size → l.getD i false = true) : laid ops a0 l xs ops.size = putL ops.toList 0 xs a0 := by
  have key : ∀ (os : List Oper) (k : Nat), k + os.length = ops.size → (∀ j, os[j]? = ops[k + j]?) → putL os k xs (laid ops a0 l xs k) = laid ops a0 l xs ops.size := by
    intro os
    induction os with
    | nil => intro k hk _; rw [show ops.size = k from by simpa using hk.symm]; rfl
    | cons o os ih =>
      intro k hk hos
      rw [putL]
      have h0 : ops[k]? = some o := by have := hos 0; simpa using this.symm
      have hlt : k < ops.size := (Array.getElem?_eq_some_iff.1 h0).1
      have e : (laid ops a0 l xs k).put o.dst (xs k) = laid ops a0 l xs (k + 1) := by
        rw [laid, if_pos (hl k hlt)]
        unfold dstOf
        rw [h0]
      rw [e]
      refine ih (k + 1) (by simp at hk; omega) (fun j => ?_)
      have := hos (j + 1)
      rw [List.getElem?_cons_succ] at this
      rw [this]
      congr 1
      omega
  exact (key ops.toList 0 (by simp) (fun j => by simp)).symm

theorem wpAny_values (hd : dstsB ops = true) (hb : backB ops = true) {a0 : Act} (hin : dstIn ops a0.tmps.size = true) {w : World} (V : Nat → Value → World → Prop) (hV : ∀ j v W W', V j v W → Later W W' → V j v W')
    (step : ∀ i o a W, ops[i]? = some o → Later w W → Env ops a0 V i a W → StepOk P ops Q o a W (V i))
    (done : ∀ xs W, Later w W → (∀ j, j < ops.size → V j (xs j) W) → Q .normal (putL ops.toList 0 xs a0) W) :
    ∀ (fuel : Nat) (l : Array Bool) (a : Act) (W : World), l.toList.count false ≤ fuel → Inv ops a0 w V l a W → wpAny P .any ops Q fuel l a W := by
  have fin : ∀ (l : Array Bool) (a : Act) (W : World), Inv ops a0 w V l a W → (∀ i, i < ops.size → l.getD i false = true) → Q .normal a W := fun l a W hI hl => by
    obtain ⟨xs, rfl, hx⟩ := hI.act
    rw [laid_all hl]
    exact done xs W hI.later (fun j hj => hx j hj (hl j hj))
  intro fuel
  induction fuel with
  | zero =>
    intro l a W hc hI
    have hall : ∀ i, i < ops.size → l.getD i false = true := fun i hi => by
      have hi' : i < l.size := by rw [hI.size]; exact hi
      cases h : l.getD i false
      · exfalso
        have hm : false ∈ l.toList := by
          have : l[i] = false := by simpa [Array.getD, hi'] using h
          rw [← this]; exact Array.mem_toList_iff.2 (Array.getElem_mem hi')
        have := List.count_pos_iff.2 hm
        omega
      · rfl
    refine ⟨?_, fin l a W hI hall⟩
    rw [List.eq_nil_iff_forall_not_mem]
    intro i hi
    obtain ⟨h1, o, ho, _⟩ := mem_ready.1 hi
    have hlt : i < ops.size := (Array.getElem?_eq_some_iff.1 ho).1
    have hi' : i < l.size := by rw [hI.size]; exact hlt
    have := hall i hlt
    simp [Array.getD, hi'] at this h1
    rw [this] at h1; cases h1
  | succ fuel ih =>
    intro l a W hc hI
    refine ⟨fun hr => fin l a W hI (ready_nil hb hI.size hr), fun i hi => ?_⟩
    obtain ⟨h1, o, ho, hdeps⟩ := mem_ready.1 hi
    have hlt : i < ops.size := (Array.getElem?_eq_some_iff.1 ho).1
    have hi' : i < l.size := by rw [hI.size]; exact hlt
    have hf : l.getD i false = false := by simp [Array.getD, hi'] at h1 ⊢; exact h1
    obtain ⟨xs, rfl, hx⟩ := hI.act
    have hdst : dstOf ops i = o.dst := by unfold dstOf; rw [ho]
    have hwl : ∀ j, waits ops i j = true → l.getD j false = true := fun j hw => by
      unfold waits at hw
      rw [ho] at hw
      obtain ⟨k, hk, h2⟩ := Array.any_eq_true.1 hw
      simp at h2
      rw [← h2.2]
      exact hdeps _ (Array.getElem_mem hk) h2.1
    have hjlt : ∀ j t, dstOf ops j = some t → j < ops.size := fun j t h => by
      unfold dstOf at h
      cases hj : ops[j]? with
      | none => rw [hj] at h; cases h
      | some o' => exact (Array.getElem?_eq_some_iff.1 hj).1
    have hts : ∀ j t, dstOf ops j = some t → t < a0.tmps.size := fun j t h => by
      unfold dstIn at hin
      rw [List.all_eq_true] at hin
      have := hin j (List.mem_range.2 (hjlt j t h))
      rw [h] at this
      simpa using this
    have henv : Env ops a0 V i (laid ops a0 l xs ops.size) W := by
      refine ⟨fun x hk => laid_keep x _ (fun j d hj hjd hl hx' => ?_), fun j t hw ht => ?_⟩
      · subst hx'
        unfold keepsB at hk
        rw [List.all_eq_true] at hk
        have h3 := hk j (List.mem_range.2 hj)
        rw [hjd] at h3
        simp at h3
        rcases h3 with h3 | h3
        · subst h3; rw [hf] at hl; cases hl
        · have := hI.closed j i hl h3
          rw [hf] at this; cases this
      · rw [laid_get hd ht (hwl j hw) (hts j t ht) _ (Nat.le_refl _) (hjlt j t ht)]
        exact hx j (hjlt j t ht) (hwl j hw)
    have hs := step i o _ W ho hI.later henv
    have next : ∀ v W', Later W W' → V i v W' → Inv ops a0 w V (l.setIfInBounds i true) ((laid ops a0 l xs ops.size).put o.dst v) W' := fun v W' hL hv => by
      have hset : ∀ j, j ≠ i → (l.setIfInBounds i true).getD j false = l.getD j false := fun j hj => getD_set_ne false (fun e => hj e.symm)
      refine ⟨by simpa using hI.size, fun p q hp hw => ?_, hI.later.step hL, (fun j => if j = i then v else xs j), ?_, fun j hj hl => ?_⟩
      · by_cases e : p = i
        · subst e
          exact getD_set_true (hwl q hw)
        · rw [hset p e] at hp
          exact getD_set_true (hI.closed p q hp hw)
      · rw [← hdst]
        exact laid_put hd v hi' hf _ (Nat.le_refl _) hlt
      · show V j (if j = i then v else xs j) W'
        by_cases e : j = i
        · subst e; rw [if_pos rfl]; exact hv
        · rw [if_neg e]
          rw [hset j e] at hl
          exact hV j _ W W' (hx j hj hl) hL
    have hcnt : (l.setIfInBounds i true).toList.count false ≤ fuel := by
      have hil : i < l.toList.length := by simpa using hi'
      have hlv : l.toList[i] = false := by simpa [Array.getD, hi'] using hf
      have := List.count_set (a := true) (b := false) (l := l.toList) (i := i) hil
      rw [Array.toList_setIfInBounds, this, hlv, if_pos (show (false == false) = true from rfl), if_neg (show ¬ (true == false) = true from by decide)]
      have hp : 0 < l.toList.count false := List.count_pos_iff.2 (by rw [← hlv]; exact List.getElem_mem hil)
      omega
    unfold wpOp
    rw [ho]
    unfold StepOk at hs
    simp only
    split
    · rename_i hw
      rw [if_pos hw] at hs
      refine .inl (Oper.wp_mono (fun a' W' h => ?_) hs)
      obtain ⟨v, rfl, hL, hv⟩ := h
      exact ih _ _ _ hcnt (next v W' hL hv)
    · rename_i hw
      rw [if_neg hw] at hs
      exact ih _ _ _ hcnt (next undef W (Later.refl W) hs)

theorem wp_region_values {id : Nat} {a0 : Act} {w : World} (hm : P.follows .mixedOrders = true) (hd : dstsB ops = true) (hb : backB ops = true) (hin : dstIn ops a0.tmps.size = true)
    (V : Nat → Value → World → Prop) (hV : ∀ j v W W', V j v W → Later W W' → V j v W')
    (step : ∀ i o a W, ops[i]? = some o → Later w W → Env ops a0 V i a W → StepOk P ops Q o a W (V i))
    (done : ∀ xs W, Later w W → (∀ j, j < ops.size → V j (xs j) W) → Q .normal (putL ops.toList 0 xs a0) W) : (Code.region id ops true).wp P Q a0 w := by
  refine wp_region_any hm (wpAny_values hd hb hin V hV step done _ _ _ _ ?_ ⟨by simp, fun i j hi _ => ?_, (Later.refl w).drew, fun _ => undef, ?_, fun j hj hl => ?_⟩)
  · simp
  · exfalso
    simp [Array.getD] at hi
  · have : ∀ k, laid ops a0 (Array.replicate ops.size false) (fun _ => undef) k = a0 := fun k => by
      induction k with
      | zero => rfl
      | succ k ih => rw [laid, if_neg (by simp [Array.getD]), ih]
    exact (this _).symm
  · exfalso
    simp [Array.getD] at hl

/- what a guard says -/
theorem stepOk_want {o : Oper} {a : Act} {W : World} {R : Value → World → Prop} (hg : o.guard = none) (h : o.wp P a W (fun a' W' => ∃ v, a' = a.put o.dst v ∧ Later W W' ∧ R v W') Q) : StepOk P ops Q o a W R := by
  unfold StepOk
  rw [if_pos (by unfold Region.wanted; rw [hg])]
  exact h
theorem yielded_of {a : Act} {j : Nat} {t : Tmp} {b : Bool} (ht : dstOf ops j = some t) (h : a.eval (.tmp t) = .bool b) : yielded ops a.tmps j = some b := by
  unfold yielded
  unfold dstOf at ht
  cases hj : ops[j]? with
  | none => rw [hj] at ht; cases ht
  | some o =>
    rw [hj] at ht
    simp only at ht
    simp only [Option.bind_some, ht]
    have h' : a.tmps.getD t undef = .bool b := h
    unfold Array.getD at h'
    split at h'
    · rename_i hlt
      rw [Array.getElem?_eq_getElem hlt]
      have h2 : a.tmps[t] = .bool b := h'
      rw [h2]
    · cases h'
theorem stepOk_yes {o : Oper} {a : Act} {W : World} {R : Value → World → Prop} {j : Nat} {t : Tmp} {b : Bool} (hg : o.guard = some (j, b)) (ht : dstOf ops j = some t) (he : a.eval (.tmp t) = .bool b) (h : o.wp P a W (fun a' W' => ∃ v, a' = a.put o.dst v ∧ Later W W' ∧ R v W') Q) : StepOk P ops Q o a W R := by
  unfold StepOk
  rw [if_pos (by unfold Region.wanted; rw [hg]; simp [yielded_of ht he])]
  exact h
theorem stepOk_no {o : Oper} {a : Act} {W : World} {R : Value → World → Prop} {j : Nat} {t : Tmp} {b c : Bool} (hg : o.guard = some (j, b)) (ht : dstOf ops j = some t) (he : a.eval (.tmp t) = .bool c) (hne : c ≠ b) (h : R undef W) : StepOk P ops Q o a W R := by
  unfold StepOk
  rw [if_neg (by unfold Region.wanted; rw [hg]; simp [yielded_of ht he, hne])]
  exact h

/- single operations -/
section
variable {o : Oper} {a : Act} {W : World} {R : Value → World → Prop}
theorem op_move {x : Operand} (ho : o.op = .move x) (h : R (a.eval x) W) : o.wp P a W (fun a' W' => ∃ v, a' = a.put o.dst v ∧ Later W W' ∧ R v W') Q := by
  unfold Oper.wp execOp
  simp only [ho, Sem.run_pure, Oper.upon]
  exact ⟨_, rfl, Later.refl _, h⟩
theorem op_assign {x : Operand} (ho : o.op = .assign x) (h : R (a.eval x) W) : o.wp P a W (fun a' W' => ∃ v, a' = a.put o.dst v ∧ Later W W' ∧ R v W') Q := by
  unfold Oper.wp execOp
  simp only [ho, Sem.run_pure, Oper.upon]
  exact ⟨_, rfl, Later.refl _, h⟩
theorem op_pick {c x y : Operand} {b : Bool} (ho : o.op = .pick c x y) (hc : a.eval c = .bool b) (h : R (if b then a.eval x else a.eval y) W) : o.wp P a W (fun a' W' => ∃ v, a' = a.put o.dst v ∧ Later W W' ∧ R v W') Q := by
  unfold Oper.wp execOp
  simp only [ho, hc, asBool, Sem.run_bind, Sem.run_pure, Result.andThen_ok, Oper.upon]
  exact ⟨_, rfl, Later.refl _, h⟩
theorem op_slice {t : TypeId} {x : Operand} {lo hi mx : Option Operand} {vx v : Value} {vlo vhi vmx : Option Value} {W' : World} (ho : o.op = .slice t x lo hi mx) (hx : a.eval x = vx) (hl : lo.map a.eval = vlo) (hh : hi.map a.eval = vhi) (hm : mx.map a.eval = vmx)
    (hr : (Instr.sliceAt t vx vlo vhi vmx).run P W = .ok v W) (h : R v W) : o.wp P a W (fun a' W' => ∃ v, a' = a.put o.dst v ∧ Later W W' ∧ R v W') Q := by
  unfold Oper.wp execOp
  simp only [ho, hx, hl, hh, hm, hr, Sem.run_bind, Sem.run_pure, Result.andThen_ok, Oper.upon]
  exact ⟨_, rfl, Later.refl _, h⟩
theorem op_buildSlice {t : TypeId} {n : Nat} {parts : Array (Nat × Operand)} {vs : Array (Nat × Value)} {v : Value} {W' : World} (ho : o.op = .buildSlice t n parts) (hp : (parts.map fun (i, x) => (i, a.eval x)) = vs)
    (hr : (Instr.buildSlice t n vs).run P W = .ok v W') (hL : Later W W') (h : R v W') : o.wp P a W (fun a' W' => ∃ v, a' = a.put o.dst v ∧ Later W W' ∧ R v W') Q := by
  unfold Oper.wp execOp
  simp only [ho, hp, hr, Sem.run_bind, Sem.run_pure, Result.andThen_ok, Oper.upon]
  exact ⟨_, rfl, hL, h⟩
theorem op_convert {s t : TypeId} {x : Operand} {vx v : Value} {W' : World} (ho : o.op = .convert s t x) (hx : a.eval x = vx) (hr : (convert s t vx).run P W = .ok v W') (hL : Later W W') (h : R v W') : o.wp P a W (fun a' W' => ∃ v, a' = a.put o.dst v ∧ Later W W' ∧ R v W') Q := by
  unfold Oper.wp execOp
  simp only [ho, hx, hr, Sem.run_bind, Sem.run_pure, Result.andThen_ok, Oper.upon]
  exact ⟨_, rfl, hL, h⟩
theorem op_extract {x : Operand} {i : Nat} {vx v : Value} (ho : o.op = .extract x i) (hx : a.eval x = vx) (hr : (Instr.extract vx i).run P W = .ok v W) (h : R v W) : o.wp P a W (fun a' W' => ∃ v, a' = a.put o.dst v ∧ Later W W' ∧ R v W') Q := by
  unfold Oper.wp execOp
  simp only [ho, hx, hr, Sem.run_bind, Sem.run_pure, Result.andThen_ok, Oper.upon]
  exact ⟨_, rfl, Later.refl _, h⟩
theorem op_binOp {b : BinOp} {t u : TypeId} {x y : Operand} {vx vy v : Value} (ho : o.op = .binOp b t x y u) (hx : a.eval x = vx) (hy : a.eval y = vy) (he : (eqGuard b t x y vx vy).run P W = .ok () W) (hr : (binOp b t vx vy).run P W = .ok v W) (h : R v W) : o.wp P a W (fun a' W' => ∃ v, a' = a.put o.dst v ∧ Later W W' ∧ R v W') Q := by
  unfold Oper.wp execOp
  simp only [ho, hx, hy, he, hr, Sem.run_bind, Sem.run_pure, Result.andThen_ok, Oper.upon]
  exact ⟨_, rfl, Later.refl _, h⟩
/-- A call of a function by its contract. -/
theorem op_call {c : Call} {f : FuncId} {args : Array Value} (ho : o.op = .call c) (hr : ((do let d ← resolve a.eval c o.type; invoke d.target d.args) : Sem Next).run P W = .ok (.enter f args) W)
    (h : Calls P f args W fun e W' => ∃ v, e = .returned v ∧ Later W W' ∧ R v W') : o.wp P a W (fun a' W' => ∃ v, a' = a.put o.dst v ∧ Later W W' ∧ R v W') Q := by
  unfold Oper.wp execOp
  simp only [ho]
  rw [hr]
  exact h.mono fun e W' ⟨v, he, hL, hv⟩ => by subst he; exact ⟨v, rfl, hL, hv⟩
theorem op_value {v : Value} {W' : World} (hr : (execOp a.eval o).run P W = .ok (.value v) W') (hL : Later W W') (h : R v W') : o.wp P a W (fun a' W' => ∃ v, a' = a.put o.dst v ∧ Later W W' ∧ R v W') Q := by
  unfold Oper.wp
  rw [hr]
  exact ⟨_, rfl, hL, h⟩
end
end
end Go.Proofs.Ytfconncnccgenaa
