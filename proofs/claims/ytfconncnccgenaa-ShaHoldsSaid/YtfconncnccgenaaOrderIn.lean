/- The law for drawn regions, with a last operation that may do anything; within a round of a range over a function, too. -/
import Derived.Test.YtfconncnccgenaaOrder2
import Derived.OrdersIn
import Derived.RangeFuncCalls
set_option linter.unusedVariables false
set_option linter.unusedSimpArgs false
namespace Go.Proofs.Ytfconncnccgenaa
open Go.RowKit
section
variable {P : Program} {Q : Exit → Act → World → Prop}
/-- Every operation but the last is waited for by a later one. -/
def ancB (ops : Array Oper) : Bool := (List.range (ops.size - 1)).all fun i => (List.range ops.size).any fun k => decide (i < k) && waits ops k i
theorem anc_all {ops : Array Oper} (h : ancB ops = true) {l : Array Bool} (hcl : ∀ i j, l.getD i false = true → waits ops i j = true → l.getD j false = true) (hlast : ∀ j, waits ops (ops.size - 1) j = true → l.getD j false = true) :
    ∀ i, i < ops.size - 1 → l.getD i false = true := by
  have key : ∀ d i, ops.size - 1 - i = d → i < ops.size - 1 → l.getD i false = true := by
    intro d
    induction d using Nat.strongRecOn with
    | _ d ih =>
      intro i hd hi
      unfold ancB at h
      rw [List.all_eq_true] at h
      have h1 := h i (List.mem_range.2 hi)
      rw [List.any_eq_true] at h1
      obtain ⟨k, hk, h2⟩ := h1
      rw [List.mem_range] at hk
      simp at h2
      by_cases e : k = ops.size - 1
      · subst e; exact hlast i h2.2
      · exact hcl k i (ih (ops.size - 1 - k) (by omega) k rfl (by omega)) h2.2
  exact fun i hi => key _ i rfl hi
def plainB (o : Oper) : Bool := match o.op with
  | .defer _ => false
  | _ => true
def plainAll (ops : Array Oper) : Bool := ops.all plainB
theorem plain_of {o : Oper} (h : plainB o = true) : ∀ c, o.op ≠ .defer c := fun c e => by
  unfold plainB at h
  rw [e] at h
  cases h
theorem plainAll_get {ops : Array Oper} (h : plainAll ops = true) {i : Nat} {o : Oper} (ho : ops[i]? = some o) : ∀ c, o.op ≠ .defer c := by
  obtain ⟨hi, rfl⟩ := Array.getElem?_eq_some_iff.1 ho
  exact plain_of (Array.all_eq_true.1 h i hi)
/-- The widest fence, or a round within it. -/
def Wide (F : Fence) : Prop := F = Fence.wide ∨ ∃ l, F = Fence.wide.inRound l
theorem wide_round (l : Nat) : Wide (Fence.wide.inRound l) := .inr ⟨l, rfl⟩
theorem wide_wide : Wide Fence.wide := .inl rfl
theorem Wide.fn {F : Fence} (h : Wide F) (f : FuncId) : F.fn f := by
  rcases h with rfl | ⟨l, rfl⟩ <;> trivial
theorem Wide.depth {F : Fence} (h : Wide F) : ¬ F.depth.isSome = true := by
  rcases h with rfl | ⟨l, rfl⟩ <;> simp [Fence.wide]
theorem Wide.calls {F : Fence} (h : Wide F) {n : Nat} {f : FuncId} {args : Array Value} {w : World} {R : Ending → World → Prop} (hc : Calls P f args w R) : CallsIn F n P f args w R := by
  rcases h with rfl | ⟨l, rfl⟩
  · exact callsIn_wide.2 hc
  · exact CallsIn.inRound l (callsIn_wide.2 hc)
theorem Wide.rows {F : Fence} (h : Wide F) {n : Nat} {r : String} {args : Array Value} {w : World} {R : Value → World → Prop} (hc : Rows P r args w R) : RowsIn F n P r args w R := by
  rcases h with rfl | ⟨l, rfl⟩
  · exact fun c cs _ => let ⟨v, w', hr, s⟩ := hc c cs; ⟨v, w', hr, stepsIn_wide.2 s⟩
  · exact fun c cs _ => let ⟨v, w', hr, s⟩ := hc c cs; ⟨v, w', hr, by rw [fenced_inRound]; exact stepsIn_wide.2 s⟩
theorem opIn_of_op {F : Fence} (hF : Wide F) {n : Nat} {o : Oper} (hnd : ∀ c, o.op ≠ .defer c) {a : Act} {w : World} {K : Act → World → Prop} (h : o.wp P a w K Q) : o.wpIn F n P a w K Q := by
  refine ⟨fun f _ => hF.fn f, ?_⟩
  unfold Oper.wp at h
  rw [Oper.semAt_eq _ _ _ hnd]
  generalize (execOp a.eval o).run P w = r at *
  cases r with
  | ok x w' =>
    cases x
    all_goals first
      | exact h
      | exact ⟨fun e => absurd e hF.depth, hF.calls h⟩
      | exact ⟨fun e => absurd e hF.depth, hF.rows h⟩
      | exact False.elim h
  | halt x w' =>
    cases x <;> first | exact h | exact False.elim h
def StepOkIn (F : Fence) (n : Nat) (P : Program) (ops : Array Oper) (Q : Exit → Act → World → Prop) (o : Oper) (a : Act) (W : World) (R : Value → World → Prop) : Prop :=
  if Region.wanted o (yielded ops a.tmps) then o.wpIn F n P a W (fun a' W' => ∃ v, a' = a.put o.dst v ∧ Later W W' ∧ R v W') Q else R undef W

theorem wpAnyIn_tail {F : Fence} (hF : Wide F) {n : Nat} {ops : Array Oper} (hp : plainAll ops = true) (hd : dstsB ops = true) (hb : backB ops = true) (ha : ancB ops = true) {a0 : Act} (hin : dstIn ops a0.tmps.size = true) {w : World} {m : Nat} (hm : ops.size = m + 1) {last : Oper} (hlast : ops[m]? = some last)
    (V : Nat → Value → World → Prop) (hV : ∀ j v W W', V j v W → Later W W' → V j v W')
    (step : ∀ i o a W, i < m → ops[i]? = some o → Later w W → Env ops a0 V i a W → StepOk P ops Q o a W (V i))
    (fin : ∀ xs W, Later w W → (∀ j, j < m → V j (xs j) W) → (∀ x, keepsB ops m x = true → (putL (ops.toList.take m) 0 xs a0).eval x = a0.eval x) → (∀ j t, j < m → dstOf ops j = some t → (putL (ops.toList.take m) 0 xs a0).eval (.tmp t) = xs j) →
      if Region.wanted last (yielded ops (putL (ops.toList.take m) 0 xs a0).tmps) then last.wp P (putL (ops.toList.take m) 0 xs a0) W (fun a' W' => Q .normal a' W') Q else Q .normal ((putL (ops.toList.take m) 0 xs a0).put last.dst undef) W) :
    ∀ (fuel : Nat) (l : Array Bool) (a : Act) (W : World), l.toList.count false ≤ fuel → l.getD m false = false → Inv ops a0 w V l a W → wpAnyIn F n P .any ops Q fuel l a W := by
  have hlaid : ∀ (l : Array Bool) (xs : Nat → Value), l.getD m false = false → (∀ i, i < m → l.getD i false = true) → laid ops a0 l xs ops.size = putL (ops.toList.take m) 0 xs a0 := fun l xs hf hl => by
    rw [hm, laid, if_neg (by rw [hf]; simp)]
    have key : ∀ (os : List Oper) (k : Nat), k + os.length = m → (∀ j, j < os.length → os[j]? = ops[k + j]?) → putL os k xs (laid ops a0 l xs k) = laid ops a0 l xs m := by
      intro os
      induction os with
      | nil => intro k hk _; rw [show m = k from by simpa using hk.symm]; rfl
      | cons o os ih =>
        intro k hk hos
        rw [putL]
        have h0 : ops[k]? = some o := by have := hos 0 (by simp); simpa using this.symm
        have e : (laid ops a0 l xs k).put o.dst (xs k) = laid ops a0 l xs (k + 1) := by
          rw [laid, if_pos (hl k (by simp at hk; omega))]
          unfold dstOf
          rw [h0]
        rw [e]
        refine ih (k + 1) (by simp at hk; omega) (fun j hj => ?_)
        have := hos (j + 1) (by simp; omega)
        rw [List.getElem?_cons_succ] at this
        rw [this]
        congr 1
        omega
    refine (key (ops.toList.take m) 0 (by simp; omega) (fun j hj => ?_)).symm
    rw [List.getElem?_take_of_lt (by simp at hj; omega)]
    simp
  intro fuel
  induction fuel with
  | zero =>
    intro l a W hc hlf hI
    exfalso
    have hmm : m < l.size := by rw [hI.size]; omega
    have hmem : false ∈ l.toList := by
      have : l[m] = false := by simpa [Array.getD, hmm] using hlf
      rw [← this]; exact Array.mem_toList_iff.2 (Array.getElem_mem hmm)
    have := List.count_pos_iff.2 hmem
    omega
  | succ fuel ih =>
    intro l a W hc hlf hI
    refine ⟨fun hr => ?_, fun i hi => ?_⟩
    · have := ready_nil hb hI.size hr m (by omega)
      rw [hlf] at this; cases this
    obtain ⟨h1, o, ho, hdeps⟩ := mem_ready.1 hi
    have hlt : i < ops.size := (Array.getElem?_eq_some_iff.1 ho).1
    have hi' : i < l.size := by rw [hI.size]; exact hlt
    have hf : l.getD i false = false := by simp [Array.getD, hi'] at h1 ⊢; exact h1
    obtain ⟨xs, rfl, hx⟩ := hI.act
    have hdst : dstOf ops i = o.dst := by unfold dstOf; rw [ho]
    have hwl : ∀ j, waits ops i j = true → l.getD j false = true := fun j hw => by
      unfold waits at hw
      rw [ho] at hw
      obtain ⟨k, hk, h2⟩ := Array.any_eq_true.1 hw
      simp at h2
      rw [← h2.2]
      exact hdeps _ (Array.getElem_mem hk) h2.1
    have hjlt : ∀ j t, dstOf ops j = some t → j < ops.size := fun j t h => by
      unfold dstOf at h
      cases hj : ops[j]? with
      | none => rw [hj] at h; cases h
      | some o' => exact (Array.getElem?_eq_some_iff.1 hj).1
    have hts : ∀ j t, dstOf ops j = some t → t < a0.tmps.size := fun j t h => by
      unfold dstIn at hin
      rw [List.all_eq_true] at hin
      have := hin j (List.mem_range.2 (hjlt j t h))
      rw [h] at this
      simpa using this
    have hkeep : ∀ x, keepsB ops i x = true → (laid ops a0 l xs ops.size).eval x = a0.eval x := fun x hk => laid_keep x _ (fun j d hj hjd hl hx' => by
        subst hx'
        unfold keepsB at hk
        rw [List.all_eq_true] at hk
        have h3 := hk j (List.mem_range.2 hj)
        rw [hjd] at h3
        simp at h3
        rcases h3 with h3 | h3
        · subst h3; rw [hf] at hl; cases hl
        · have := hI.closed j i hl h3
          rw [hf] at this; cases this)
    have hget : ∀ j t, l.getD j false = true → dstOf ops j = some t → (laid ops a0 l xs ops.size).eval (.tmp t) = xs j := fun j t hl ht => laid_get hd ht hl (hts j t ht) _ (Nat.le_refl _) (hjlt j t ht)
    by_cases him : i = m
    · subst him
      have hall := anc_all ha hI.closed (by rw [hm]; simpa using hwl)
      rw [hm] at hall
      have hall' : ∀ j, j < i → l.getD j false = true := fun j hj => hall j (by omega)
      obtain rfl : o = last := by rw [ho] at hlast; exact Option.some.inj hlast
      have hf2 := fin xs W hI.later (fun j hj => hx j (by omega) (hall' j hj)) (fun x hk => by rw [← hlaid l xs hf hall']; exact hkeep x hk) (fun j t hj ht => by rw [← hlaid l xs hf hall']; exact hget j t (hall' j hj) ht)
      rw [← hlaid l xs hf hall'] at hf2
      have hend : ∀ a' W', Q .normal a' W' → wpAnyIn F n P .any ops Q fuel (l.setIfInBounds i true) a' W' := fun a' W' hq => by
        refine wpAnyIn_done ?_ hq _
        rw [List.eq_nil_iff_forall_not_mem]
        intro k hk
        obtain ⟨h1, o', ho', _⟩ := mem_ready.1 hk
        have hklt : k < ops.size := (Array.getElem?_eq_some_iff.1 ho').1
        have hk' : k < (l.setIfInBounds i true).size := by rw [Array.size_setIfInBounds, hI.size]; exact hklt
        have h2 : (l.setIfInBounds i true).getD k false = true := by
          by_cases e : k = i
          · subst e; simp [Array.getD, hi']
          · exact getD_set_true (hall' k (by omega))
        generalize l.setIfInBounds i true = l' at *
        simp [Array.getD, hk'] at h1 h2
        rw [h2] at h1
        cases h1
      unfold wpOpIn
      rw [ho]
      simp only
      split
      · rename_i hw
        rw [if_pos hw] at hf2
        exact Oper.wpIn_mono (fun a' W' h => hend a' W' h) (opIn_of_op hF (plainAll_get hp ho) hf2)
      · rename_i hw
        rw [if_neg hw] at hf2
        exact ⟨fun f _ => hF.fn f, hend _ _ hf2⟩
    · have henv : Env ops a0 V i (laid ops a0 l xs ops.size) W := ⟨hkeep, fun j t hw ht => by
        rw [hget j t (hwl j hw) ht]
        exact hx j (hjlt j t ht) (hwl j hw)⟩
      have hs := step i o _ W (by omega) ho hI.later henv
      have hset : ∀ j, j ≠ i → (l.setIfInBounds i true).getD j false = l.getD j false := fun j hj => getD_set_ne false (fun e => hj e.symm)
      have next : ∀ v W', Later W W' → V i v W' → Inv ops a0 w V (l.setIfInBounds i true) ((laid ops a0 l xs ops.size).put o.dst v) W' := fun v W' hL hv => by
        refine ⟨by simpa using hI.size, fun p q hp hw => ?_, hI.later.step hL, (fun j => if j = i then v else xs j), ?_, fun j hj hl => ?_⟩
        · by_cases e : p = i
          · subst e
            exact getD_set_true (hwl q hw)
          · rw [hset p e] at hp
            exact getD_set_true (hI.closed p q hp hw)
        · rw [← hdst]
          exact laid_put hd v hi' hf _ (Nat.le_refl _) hlt
        · show V j (if j = i then v else xs j) W'
          by_cases e : j = i
          · subst e; rw [if_pos rfl]; exact hv
          · rw [if_neg e]
            rw [hset j e] at hl
            exact hV j _ W W' (hx j hj hl) hL
      have hcnt : (l.setIfInBounds i true).toList.count false ≤ fuel := by
        have hil : i < l.toList.length := by simpa using hi'
        have hlv : l.toList[i] = false := by simpa [Array.getD, hi'] using hf
        have := List.count_set (a := true) (b := false) (l := l.toList) (i := i) hil
        rw [Array.toList_setIfInBounds, this, hlv, if_pos (show (false == false) = true from rfl), if_neg (show ¬ (true == false) = true from by decide)]
        have hp : 0 < l.toList.count false := List.count_pos_iff.2 (by rw [← hlv]; exact List.getElem_mem hil)
        omega
      have hlf' : (l.setIfInBounds i true).getD m false = false := by rw [hset m (fun e => him e.symm)]; exact hlf
      unfold wpOpIn
      rw [ho]
      unfold StepOk at hs
      simp only
      split
      · rename_i hw
        rw [if_pos hw] at hs
        refine Oper.wpIn_mono (fun a' W' h => ?_) (opIn_of_op hF (plainAll_get hp ho) hs)
        obtain ⟨v, rfl, hL, hv⟩ := h
        exact ih _ _ _ hcnt hlf' (next v W' hL hv)
      · rename_i hw
        rw [if_neg hw] at hs
        exact ⟨fun f _ => hF.fn f, ih _ _ _ hcnt hlf' (next undef W (Later.refl W) hs)⟩
/-- A region whose last operation waits for all the others. -/
theorem wpIn_region_tail {F : Fence} (hF : Wide F) {n : Nat} {id : Nat} {l : List Oper} {last : Oper} {a0 : Act} {w : World} (Vs : List Pr) (hm : P.follows .mixedOrders = true) (hp : plainAll (l ++ [last]).toArray = true) (hd : dstsB (l ++ [last]).toArray = true) (hb : backB (l ++ [last]).toArray = true) (ha : ancB (l ++ [last]).toArray = true) (hin : dstIn (l ++ [last]).toArray a0.tmps.size = true)
    (step : AllFrom (fun i o => ∀ a W, Later w W → Env (l ++ [last]).toArray a0 (Vof Vs) i a W → StepOk P (l ++ [last]).toArray Q o a W (Vof Vs i)) 0 l) (hg : last.guard = none)
    (fin : ∀ xs W, Later w W → (∀ j, j < l.length → Vof Vs j (xs j) W) → (∀ x, keepsB (l ++ [last]).toArray l.length x = true → (putL l 0 xs a0).eval x = a0.eval x) → (∀ j t, j < l.length → dstOf (l ++ [last]).toArray j = some t → (putL l 0 xs a0).eval (.tmp t) = xs j) →
      last.wp P (putL l 0 xs a0) W (fun a' W' => Q .normal a' W') Q) : (Code.region id (l ++ [last]).toArray true).wpIn F n P Q a0 w := by
  have htake : (l ++ [last]).toArray.toList.take l.length = l := by simp
  refine wpIn_region_any hm (wpAnyIn_tail hF hp hd hb ha hin (m := l.length) (last := last) (by simp) (by simp) (Vof Vs) (Vof.st Vs) (fun i o a W hi ho hL he => ?_) (fun xs W hL hx hk hg' => ?_) _ _ _ _ ?_ ?_ ⟨by simp, fun i j hi _ => ?_, (Later.refl w).drew, fun _ => undef, ?_, fun j hj hl => ?_⟩)
  · have h := allFrom_get l 0 step i o (by
      rw [List.getElem?_toArray, List.getElem?_append_left hi] at ho
      exact ho)
    rw [Nat.zero_add] at h
    exact h a W hL he
  · rw [htake] at hk hg' ⊢
    rw [if_pos (by unfold Region.wanted; rw [hg])]
    exact fin xs W hL hx hk hg'
  · simp
  · simp [Array.getD]
  · exfalso
    simp [Array.getD] at hi
  · have : ∀ k, laid (l ++ [last]).toArray a0 (Array.replicate (l ++ [last]).toArray.size false) (fun _ => undef) k = a0 := fun k => by
      induction k with
      | zero => rfl
      | succ k ih => rw [laid, if_neg (by simp [Array.getD]), ih]
    exact (this _).symm
  · exfalso
    simp [Array.getD] at hl
theorem wpAnyIn_values {F : Fence} (hF : Wide F) {n : Nat} {ops : Array Oper} (hp : plainAll ops = true) (hd : dstsB ops = true) (hb : backB ops = true) {a0 : Act} (hin : dstIn ops a0.tmps.size = true) {w : World} (V : Nat → Value → World → Prop) (hV : ∀ j v W W', V j v W → Later W W' → V j v W')
    (step : ∀ i o a W, ops[i]? = some o → Later w W → Env ops a0 V i a W → StepOk P ops Q o a W (V i))
    (done : ∀ xs W, Later w W → (∀ j, j < ops.size → V j (xs j) W) → Q .normal (putL ops.toList 0 xs a0) W) :
    ∀ (fuel : Nat) (l : Array Bool) (a : Act) (W : World), l.toList.count false ≤ fuel → Inv ops a0 w V l a W → wpAnyIn F n P .any ops Q fuel l a W := by
  have fin : ∀ (l : Array Bool) (a : Act) (W : World), Inv ops a0 w V l a W → (∀ i, i < ops.size → l.getD i false = true) → Q .normal a W := fun l a W hI hl => by
    obtain ⟨xs, rfl, hx⟩ := hI.act
    rw [laid_all hl]
    exact done xs W hI.later (fun j hj => hx j hj (hl j hj))
  intro fuel
  induction fuel with
  | zero =>
    intro l a W hc hI
    have hall : ∀ i, i < ops.size → l.getD i false = true := fun i hi => by
      have hi' : i < l.size := by rw [hI.size]; exact hi
      cases h : l.getD i false
      · exfalso
        have hm : false ∈ l.toList := by
          have : l[i] = false := by simpa [Array.getD, hi'] using h
          rw [← this]; exact Array.mem_toList_iff.2 (Array.getElem_mem hi')
        have := List.count_pos_iff.2 hm
        omega
      · rfl
    refine ⟨?_, fin l a W hI hall⟩
    rw [List.eq_nil_iff_forall_not_mem]
    intro i hi
    obtain ⟨h1, o, ho, _⟩ := mem_ready.1 hi
    have hlt : i < ops.size := (Array.getElem?_eq_some_iff.1 ho).1
    have hi' : i < l.size := by rw [hI.size]; exact hlt
    have := hall i hlt
    simp [Array.getD, hi'] at this h1
    rw [this] at h1; cases h1
  | succ fuel ih =>
    intro l a W hc hI
    refine ⟨fun hr => fin l a W hI (ready_nil hb hI.size hr), fun i hi => ?_⟩
    obtain ⟨h1, o, ho, hdeps⟩ := mem_ready.1 hi
    have hlt : i < ops.size := (Array.getElem?_eq_some_iff.1 ho).1
    have hi' : i < l.size := by rw [hI.size]; exact hlt
    have hf : l.getD i false = false := by simp [Array.getD, hi'] at h1 ⊢; exact h1
    obtain ⟨xs, rfl, hx⟩ := hI.act
    have hdst : dstOf ops i = o.dst := by unfold dstOf; rw [ho]
    have hwl : ∀ j, waits ops i j = true → l.getD j false = true := fun j hw => by
      unfold waits at hw
      rw [ho] at hw
      obtain ⟨k, hk, h2⟩ := Array.any_eq_true.1 hw
      simp at h2
      rw [← h2.2]
      exact hdeps _ (Array.getElem_mem hk) h2.1
    have hjlt : ∀ j t, dstOf ops j = some t → j < ops.size := fun j t h => by
      unfold dstOf at h
      cases hj : ops[j]? with
      | none => rw [hj] at h; cases h
      | some o' => exact (Array.getElem?_eq_some_iff.1 hj).1
    have hts : ∀ j t, dstOf ops j = some t → t < a0.tmps.size := fun j t h => by
      unfold dstIn at hin
      rw [List.all_eq_true] at hin
      have := hin j (List.mem_range.2 (hjlt j t h))
      rw [h] at this
      simpa using this
    have henv : Env ops a0 V i (laid ops a0 l xs ops.size) W := by
      refine ⟨fun x hk => laid_keep x _ (fun j d hj hjd hl hx' => ?_), fun j t hw ht => ?_⟩
      · subst hx'
        unfold keepsB at hk
        rw [List.all_eq_true] at hk
        have h3 := hk j (List.mem_range.2 hj)
        rw [hjd] at h3
        simp at h3
        rcases h3 with h3 | h3
        · subst h3; rw [hf] at hl; cases hl
        · have := hI.closed j i hl h3
          rw [hf] at this; cases this
      · rw [laid_get hd ht (hwl j hw) (hts j t ht) _ (Nat.le_refl _) (hjlt j t ht)]
        exact hx j (hjlt j t ht) (hwl j hw)
    have hs := step i o _ W ho hI.later henv
    have next : ∀ v W', Later W W' → V i v W' → Inv ops a0 w V (l.setIfInBounds i true) ((laid ops a0 l xs ops.size).put o.dst v) W' := fun v W' hL hv => by
      have hset : ∀ j, j ≠ i → (l.setIfInBounds i true).getD j false = l.getD j false := fun j hj => getD_set_ne false (fun e => hj e.symm)
      refine ⟨by simpa using hI.size, fun p q hp hw => ?_, hI.later.step hL, (fun j => if j = i then v else xs j), ?_, fun j hj hl => ?_⟩
      · by_cases e : p = i
        · subst e
          exact getD_set_true (hwl q hw)
        · rw [hset p e] at hp
          exact getD_set_true (hI.closed p q hp hw)
      · rw [← hdst]
        exact laid_put hd v hi' hf _ (Nat.le_refl _) hlt
      · show V j (if j = i then v else xs j) W'
        by_cases e : j = i
        · subst e; rw [if_pos rfl]; exact hv
        · rw [if_neg e]
          rw [hset j e] at hl
          exact hV j _ W W' (hx j hj hl) hL
    have hcnt : (l.setIfInBounds i true).toList.count false ≤ fuel := by
      have hil : i < l.toList.length := by simpa using hi'
      have hlv : l.toList[i] = false := by simpa [Array.getD, hi'] using hf
      have := List.count_set (a := true) (b := false) (l := l.toList) (i := i) hil
      rw [Array.toList_setIfInBounds, this, hlv, if_pos (show (false == false) = true from rfl), if_neg (show ¬ (true == false) = true from by decide)]
      have hp : 0 < l.toList.count false := List.count_pos_iff.2 (by rw [← hlv]; exact List.getElem_mem hil)
      omega
    unfold wpOpIn
    rw [ho]
    unfold StepOk at hs
    simp only
    split
    · rename_i hw
      rw [if_pos hw] at hs
      refine Oper.wpIn_mono (fun a' W' h => ?_) (opIn_of_op hF (plainAll_get hp ho) hs)
      obtain ⟨v, rfl, hL, hv⟩ := h
      exact ih _ _ _ hcnt (next v W' hL hv)
    · rename_i hw
      rw [if_neg hw] at hs
      exact ⟨fun f _ => hF.fn f, ih _ _ _ hcnt (next undef W (Later.refl W) hs)⟩

theorem wpIn_region_vals {F : Fence} (hF : Wide F) {n : Nat} {id : Nat} {l : List Oper} {a0 : Act} {w : World} (Vs : List Pr) (hm : P.follows .mixedOrders = true) (hp : plainAll l.toArray = true) (hd : dstsB l.toArray = true) (hb : backB l.toArray = true) (hin : dstIn l.toArray a0.tmps.size = true)
    (step : AllFrom (fun i o => ∀ a W, Later w W → Env l.toArray a0 (Vof Vs) i a W → StepOk P l.toArray Q o a W (Vof Vs i)) 0 l)
    (done : ∀ xs W, Later w W → (∀ j, j < l.length → Vof Vs j (xs j) W) → Q .normal (putL l 0 xs a0) W) : (Code.region id l.toArray true).wpIn F n P Q a0 w := by
  refine wpIn_region_any hm (wpAnyIn_values hF hp hd hb hin (Vof Vs) (Vof.st Vs) (fun i o a W ho hL he => ?_) (fun xs W hL hx => done xs W hL (fun j hj => hx j (by simpa using hj))) _ _ _ _ ?_ ⟨by simp, fun i j hi _ => ?_, (Later.refl w).drew, fun _ => undef, ?_, fun j hj hl => ?_⟩)
  · have h := allFrom_get l 0 step i o (by simpa using ho)
    rw [Nat.zero_add] at h
    exact h a W hL he
  · simp
  · exfalso
    simp [Array.getD] at hi
  · have : ∀ k, laid l.toArray a0 (Array.replicate l.toArray.size false) (fun _ => undef) k = a0 := fun k => by
      induction k with
      | zero => rfl
      | succ k ih => rw [laid, if_neg (by simp [Array.getD]), ih]
    exact (this _).symm
  · exfalso
    simp [Array.getD] at hl
/- more single operations -/
variable {o : Oper} {a : Act} {W : World} {R : Value → World → Prop}
theorem op_load {t : TypeId} {x : Operand} {vx v : Value} (ho : o.op = .load t x) (hx : a.eval x = vx) (hr : (Instr.loadAt t vx).run P W = .ok v W) (h : R v W) : o.wp P a W (fun a' W' => ∃ v, a' = a.put o.dst v ∧ Later W W' ∧ R v W') Q := by
  refine op_value (v := v) (W' := W) ?_ (Later.refl _) h
  unfold execOp
  simp only [ho, hx, hr, Sem.run_bind, Sem.run_pure, Result.andThen_ok]
theorem op_alloc {t : TypeId} {v : Value} {W' : World} (ho : o.op = .alloc t) (hr : (Instr.alloc t true (.tuple #[])).run P W = .ok v W') (hL : Later W W') (h : R v W') : o.wp P a W (fun a' W' => ∃ v, a' = a.put o.dst v ∧ Later W W' ∧ R v W') Q := by
  refine op_value (v := v) (W' := W') ?_ hL h
  unfold execOp
  simp only [ho, hr, Sem.run_bind, Sem.run_pure, Result.andThen_ok]
theorem op_storeK {K : Act → World → Prop} {t : TypeId} {x y : Operand} {vx vy : Value} {W' : World} (ho : o.op = .store t x y) (hx : a.eval x = vx) (hy : a.eval y = vy) (hr : (Instr.storeAt t vx vy).run P W = .ok () W') (h : K (a.put o.dst undef) W') : o.wp P a W K Q := by
  unfold Oper.wp execOp
  simp only [ho, hx, hy, hr, Sem.run_bind, Sem.run_pure, Result.andThen_ok]
  exact h
theorem op_callV {f : FuncId} {bound all : Array Value} {x : Operand} {xs : Array Operand} {ts : Array TypeId} {vs : Array Value} (ho : o.op = .call { callee := .value x, args := xs, argTypes := ts }) (hf : a.eval x = .func (.func f) #[] bound) (hv : xs.map a.eval = vs) (eg : ∀ args w, (callFunc f args).run P w = .ok (.enter f args) w) (hall : vs ++ bound = all)
    (h : Calls P f all W fun e W' => ∃ v, e = .returned v ∧ Later W W' ∧ R v W') : o.wp P a W (fun a' W' => ∃ v, a' = a.put o.dst v ∧ Later W W' ∧ R v W') Q := by
  subst hall
  refine op_call ho ?_ h
  simp only [resolve, hf, hv]
  simp [invoke, go_sem, eg]
end
def initL : Oper → List Oper → List Oper
  | _, [] => []
  | o, o2 :: os => o :: initL o2 os
def lastL : Oper → List Oper → Oper
  | o, [] => o
  | _, o2 :: os => lastL o2 os
theorem init_last : ∀ (os : List Oper) (o : Oper), initL o os ++ [lastL o os] = o :: os
  | [], _ => rfl
  | o2 :: os, o => by rw [initL, lastL, List.cons_append, init_last os o2]
section
variable {P : Program} {Q : Exit → Act → World → Prop}
/-- The last operation, behind a name that nothing unfolds. -/
structure LastOk (P : Program) (o : Oper) (a : Act) (W : World) (Q : Exit → Act → World → Prop) : Prop where
  run : o.wp P a W (fun a' W' => Q .normal a' W') Q
theorem last_store {o : Oper} {a : Act} {W : World} {t : TypeId} {x y : Operand} {vx vy : Value} {W' : World} (ho : o.op = .store t x y) (hd : o.dst = none) (hx : a.eval x = vx) (hy : a.eval y = vy) (hr : (Instr.storeAt t vx vy).run P W = .ok () W') (h : Q .normal a W') : LastOk P o a W Q :=
  ⟨op_storeK (K := fun a' W' => Q .normal a' W') ho hx hy hr (by rw [hd]; exact h)⟩
theorem wpIn_region_last {F : Fence} (hF : Wide F) {n : Nat} {id : Nat} {o : Oper} {os : List Oper} {a0 : Act} {w : World} (Vs : List Pr) (hm : P.follows .mixedOrders = true) (hp : plainAll (o :: os).toArray = true) (hd : dstsB (o :: os).toArray = true) (hb : backB (o :: os).toArray = true) (ha : ancB (o :: os).toArray = true) (hin : dstIn (o :: os).toArray a0.tmps.size = true) (hg : (lastL o os).guard = none)
    (step : AllFrom (fun i o' => ∀ a W, Later w W → Env (o :: os).toArray a0 (Vof Vs) i a W → StepOk P (o :: os).toArray Q o' a W (Vof Vs i)) 0 (initL o os))
    (fin : ∀ xs W, Later w W → (∀ j, j < (initL o os).length → Vof Vs j (xs j) W) → (∀ x, keepsB (o :: os).toArray (initL o os).length x = true → (putL (initL o os) 0 xs a0).eval x = a0.eval x) → (∀ j t, j < (initL o os).length → dstOf (o :: os).toArray j = some t → (putL (initL o os) 0 xs a0).eval (.tmp t) = xs j) →
      LastOk P (lastL o os) (putL (initL o os) 0 xs a0) W Q) : (Code.region id (o :: os).toArray true).wpIn F n P Q a0 w := by
  have e := init_last os o
  rw [← e] at hp hd hb ha hin step fin ⊢
  exact wpIn_region_tail hF Vs hm hp hd hb ha hin step hg (fun xs W hL hx hk hg' => (fin xs W hL hx hk hg').run)
end
end Go.Proofs.Ytfconncnccgenaa
