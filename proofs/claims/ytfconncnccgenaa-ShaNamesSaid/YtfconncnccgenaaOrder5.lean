/- As before; what is said of a value may speak of the values that it waits for. -/
import Derived.Test.YtfconncnccgenaaOrder4
set_option linter.unusedVariables false
set_option linter.unusedSimpArgs false
namespace Go.Proofs.Ytfconncnccgenaa
open Go.RowKit
def upd (xs : Nat → Value) (i : Nat) (v : Value) : Nat → Value := fun j => if j = i then v else xs j
theorem upd_self (xs : Nat → Value) (i : Nat) (v : Value) : upd xs i v i = v := if_pos rfl
theorem upd_ne (xs : Nat → Value) {i j : Nat} (v : Value) (h : j ≠ i) : upd xs i v j = xs j := if_neg h
section
variable {P : Program} {Q : Exit → Act → World → Prop}
structure InvX (G : World → World → Prop) (ops : Array Oper) (a0 : Act) (w : World) (V : Nat → (Nat → Value) → World → Prop) (l : Array Bool) (a : Act) (W : World) : Prop where
  size : l.size = ops.size
  closed : ∀ i j, l.getD i false = true → waits ops i j = true → l.getD j false = true
  later : G w W
  act : ∃ xs : Nat → Value, a = laid ops a0 l xs ops.size ∧ ∀ j, j < ops.size → l.getD j false = true → V j xs W
structure EnvX (ops : Array Oper) (a0 : Act) (V : Nat → (Nat → Value) → World → Prop) (i : Nat) (a : Act) (W : World) (xs : Nat → Value) : Prop where
  keep : ∀ x, keepsB ops i x = true → a.eval x = a0.eval x
  val : ∀ j t, waits ops i j = true → dstOf ops j = some t → a.eval (.tmp t) = xs j
  get : ∀ j, j < ops.size → waits ops i j = true → V j xs W
theorem wpAnyIn_tailX {F : Fence} (hF : Wide F) {n : Nat} {ops : Array Oper} (hp : plainAll ops = true) (hd : dstsB ops = true) (hb : backB ops = true) (ha : ancB ops = true) {a0 : Act} (hin : dstIn ops a0.tmps.size = true) {w : World} {m : Nat} (hm : ops.size = m + 1) {last : Oper} (hlast : ops[m]? = some last)
    (E : Nat → World → World → Prop) (G : World → World → Prop) (hEr : ∀ i W, E i W W) (hG : ∀ i W W', G w W → E i W W' → G w W') (V : Nat → (Nat → Value) → World → Prop) (hV : ∀ i j xs v W W', j < ops.size → j ≠ i → waits ops j i = false → V j xs W → E i W W' → V j (upd xs i v) W')
    (step : ∀ i o a W xs, i < m → ops[i]? = some o → G w W → EnvX ops a0 V i a W xs → StepOkE P ops Q (E i) o a W (fun v W' => V i (upd xs i v) W'))
    (fin : ∀ xs W, G w W → (∀ j, j < m → V j xs W) → (∀ x, keepsB ops m x = true → (putL (ops.toList.take m) 0 xs a0).eval x = a0.eval x) → (∀ j t, j < m → dstOf ops j = some t → (putL (ops.toList.take m) 0 xs a0).eval (.tmp t) = xs j) →
      if Region.wanted last (yielded ops (putL (ops.toList.take m) 0 xs a0).tmps) then last.wp P (putL (ops.toList.take m) 0 xs a0) W (fun a' W' => Q .normal a' W') Q else Q .normal ((putL (ops.toList.take m) 0 xs a0).put last.dst undef) W) :
    ∀ (fuel : Nat) (l : Array Bool) (a : Act) (W : World), l.toList.count false ≤ fuel → l.getD m false = false → InvX G ops a0 w V l a W → wpAnyIn F n P .any ops Q fuel l a W := by
  have hlaid : ∀ (l : Array Bool) (xs : Nat → Value), l.getD m false = false → (∀ i, i < m → l.getD i false = true) → laid ops a0 l xs ops.size = putL (ops.toList.take m) 0 xs a0 := fun l xs hf hl => by
    rw [hm, laid, if_neg (by rw [hf]; simp)]
    have key : ∀ (os : List Oper) (k : Nat), k + os.length = m → (∀ j, j < os.length → os[j]? = ops[k + j]?) → putL os k xs (laid ops a0 l xs k) = laid ops a0 l xs m := by
      intro os
      induction os with
      | nil => intro k hk _; rw [show m = k from by simpa using hk.symm]; rfl
      | cons o os ih =>
        intro k hk hos
        rw [putL]
        have h0 : ops[k]? = some o := by have := hos 0 (by simp); simpa using this.symm
        have e : (laid ops a0 l xs k).put o.dst (xs k) = laid ops a0 l xs (k + 1) := by
          rw [laid, if_pos (hl k (by simp at hk; omega))]
          unfold dstOf
          rw [h0]
        rw [e]
        refine ih (k + 1) (by simp at hk; omega) (fun j hj => ?_)
        have := hos (j + 1) (by simp; omega)
        rw [List.getElem?_cons_succ] at this
        rw [this]
        congr 1
        omega
    refine (key (ops.toList.take m) 0 (by simp; omega) (fun j hj => ?_)).symm
    rw [List.getElem?_take_of_lt (by simp at hj; omega)]
    simp
  intro fuel
  induction fuel with
  | zero =>
    intro l a W hc hlf hI
    exfalso
    have hmm : m < l.size := by rw [hI.size]; omega
    have hmem : false ∈ l.toList := by
      have : l[m] = false := by simpa [Array.getD, hmm] using hlf
      rw [← this]; exact Array.mem_toList_iff.2 (Array.getElem_mem hmm)
    have := List.count_pos_iff.2 hmem
    omega
  | succ fuel ih =>
    intro l a W hc hlf hI
    refine ⟨fun hr => ?_, fun i hi => ?_⟩
    · have := ready_nil hb hI.size hr m (by omega)
      rw [hlf] at this; cases this
    obtain ⟨h1, o, ho, hdeps⟩ := mem_ready.1 hi
    have hlt : i < ops.size := (Array.getElem?_eq_some_iff.1 ho).1
    have hi' : i < l.size := by rw [hI.size]; exact hlt
    have hf : l.getD i false = false := by simp [Array.getD, hi'] at h1 ⊢; exact h1
    obtain ⟨xs, rfl, hx⟩ := hI.act
    have hdst : dstOf ops i = o.dst := by unfold dstOf; rw [ho]
    have hwl : ∀ j, waits ops i j = true → l.getD j false = true := fun j hw => by
      unfold waits at hw
      rw [ho] at hw
      obtain ⟨k, hk, h2⟩ := Array.any_eq_true.1 hw
      simp at h2
      rw [← h2.2]
      exact hdeps _ (Array.getElem_mem hk) h2.1
    have hjlt : ∀ j t, dstOf ops j = some t → j < ops.size := fun j t h => by
      unfold dstOf at h
      cases hj : ops[j]? with
      | none => rw [hj] at h; cases h
      | some o' => exact (Array.getElem?_eq_some_iff.1 hj).1
    have hts : ∀ j t, dstOf ops j = some t → t < a0.tmps.size := fun j t h => by
      unfold dstIn at hin
      rw [List.all_eq_true] at hin
      have := hin j (List.mem_range.2 (hjlt j t h))
      rw [h] at this
      simpa using this
    have hkeep : ∀ x, keepsB ops i x = true → (laid ops a0 l xs ops.size).eval x = a0.eval x := fun x hk => laid_keep x _ (fun j d hj hjd hl hx' => by
        subst hx'
        unfold keepsB at hk
        rw [List.all_eq_true] at hk
        have h3 := hk j (List.mem_range.2 hj)
        rw [hjd] at h3
        simp at h3
        rcases h3 with h3 | h3
        · subst h3; rw [hf] at hl; cases hl
        · have := hI.closed j i hl h3
          rw [hf] at this; cases this)
    have hget : ∀ j t, l.getD j false = true → dstOf ops j = some t → (laid ops a0 l xs ops.size).eval (.tmp t) = xs j := fun j t hl ht => laid_get hd ht hl (hts j t ht) _ (Nat.le_refl _) (hjlt j t ht)
    by_cases him : i = m
    · subst him
      have hall := anc_all ha hI.closed (by rw [hm]; simpa using hwl)
      rw [hm] at hall
      have hall' : ∀ j, j < i → l.getD j false = true := fun j hj => hall j (by omega)
      obtain rfl : o = last := by rw [ho] at hlast; exact Option.some.inj hlast
      have hf2 := fin xs W hI.later (fun j hj => hx j (by omega) (hall' j hj)) (fun x hk => by rw [← hlaid l xs hf hall']; exact hkeep x hk) (fun j t hj ht => by rw [← hlaid l xs hf hall']; exact hget j t (hall' j hj) ht)
      rw [← hlaid l xs hf hall'] at hf2
      have hend : ∀ a' W', Q .normal a' W' → wpAnyIn F n P .any ops Q fuel (l.setIfInBounds i true) a' W' := fun a' W' hq => by
        refine wpAnyIn_done ?_ hq _
        rw [List.eq_nil_iff_forall_not_mem]
        intro k hk
        obtain ⟨h1, o', ho', _⟩ := mem_ready.1 hk
        have hklt : k < ops.size := (Array.getElem?_eq_some_iff.1 ho').1
        have hk' : k < (l.setIfInBounds i true).size := by rw [Array.size_setIfInBounds, hI.size]; exact hklt
        have h2 : (l.setIfInBounds i true).getD k false = true := by
          by_cases e : k = i
          · subst e; simp [Array.getD, hi']
          · exact getD_set_true (hall' k (by omega))
        generalize l.setIfInBounds i true = l' at *
        simp [Array.getD, hk'] at h1 h2
        rw [h2] at h1
        cases h1
      unfold wpOpIn
      rw [ho]
      simp only
      split
      · rename_i hw
        rw [if_pos hw] at hf2
        exact Oper.wpIn_mono (fun a' W' h => hend a' W' h) (opIn_of_op hF (plainAll_get hp ho) hf2)
      · rename_i hw
        rw [if_neg hw] at hf2
        exact ⟨fun f _ => hF.fn f, hend _ _ hf2⟩
    · have henv : EnvX ops a0 V i (laid ops a0 l xs ops.size) W xs := ⟨hkeep, fun j t hw ht => hget j t (hwl j hw) ht, fun j hj hw => hx j hj (hwl j hw)⟩
      have hs := step i o _ W xs (by omega) ho hI.later henv
      have hset : ∀ j, j ≠ i → (l.setIfInBounds i true).getD j false = l.getD j false := fun j hj => getD_set_ne false (fun e => hj e.symm)
      have next : ∀ v W', E i W W' → V i (upd xs i v) W' → InvX G ops a0 w V (l.setIfInBounds i true) ((laid ops a0 l xs ops.size).put o.dst v) W' := fun v W' hL hv => by
        refine ⟨by simpa using hI.size, fun p q hp hw => ?_, hG i _ _ hI.later hL, upd xs i v, ?_, fun j hj hl => ?_⟩
        · by_cases e : p = i
          · subst e
            exact getD_set_true (hwl q hw)
          · rw [hset p e] at hp
            exact getD_set_true (hI.closed p q hp hw)
        · rw [← hdst]
          exact laid_put hd v hi' hf _ (Nat.le_refl _) hlt
        · by_cases e : j = i
          · subst e; exact hv
          · rw [hset j e] at hl
            have hwf : waits ops j i = false := by
              cases hwj : waits ops j i
              · rfl
              · have := hI.closed j i hl hwj
                rw [hf] at this; cases this
            exact hV i j xs v W W' hj e hwf (hx j hj hl) hL
      have hcnt : (l.setIfInBounds i true).toList.count false ≤ fuel := by
        have hil : i < l.toList.length := by simpa using hi'
        have hlv : l.toList[i] = false := by simpa [Array.getD, hi'] using hf
        have := List.count_set (a := true) (b := false) (l := l.toList) (i := i) hil
        rw [Array.toList_setIfInBounds, this, hlv, if_pos (show (false == false) = true from rfl), if_neg (show ¬ (true == false) = true from by decide)]
        have hp : 0 < l.toList.count false := List.count_pos_iff.2 (by rw [← hlv]; exact List.getElem_mem hil)
        omega
      have hlf' : (l.setIfInBounds i true).getD m false = false := by rw [hset m (fun e => him e.symm)]; exact hlf
      unfold wpOpIn
      rw [ho]
      unfold StepOkE at hs
      simp only
      split
      · rename_i hw
        rw [if_pos hw] at hs
        refine Oper.wpIn_mono (fun a' W' h => ?_) (opIn_of_op hF (plainAll_get hp ho) hs)
        obtain ⟨v, rfl, hL, hv⟩ := h
        exact ih _ _ _ hcnt hlf' (next v W' hL hv)
      · rename_i hw
        rw [if_neg hw] at hs
        exact ⟨fun f _ => hF.fn f, ih _ _ _ hcnt hlf' (next undef W (hEr i W) hs)⟩
theorem wpIn_region_tailX {F : Fence} (hF : Wide F) {n : Nat} {id : Nat} {l : List Oper} {last : Oper} {a0 : Act} {w : World} (E : Nat → World → World → Prop) (G : World → World → Prop) (hEr : ∀ i W, E i W W) (hG : ∀ i W W', G w W → E i W W' → G w W') (hG0 : G w w.drew) (V : Nat → (Nat → Value) → World → Prop) (hV : ∀ i j xs v W W', j < (l ++ [last]).toArray.size → j ≠ i → waits (l ++ [last]).toArray j i = false → V j xs W → E i W W' → V j (upd xs i v) W') (hm : P.follows .mixedOrders = true) (hp : plainAll (l ++ [last]).toArray = true) (hd : dstsB (l ++ [last]).toArray = true) (hb : backB (l ++ [last]).toArray = true) (ha : ancB (l ++ [last]).toArray = true) (hin : dstIn (l ++ [last]).toArray a0.tmps.size = true)
    (step : AllFrom (fun i o => ∀ a W xs, G w W → EnvX (l ++ [last]).toArray a0 V i a W xs → StepOkE P (l ++ [last]).toArray Q (E i) o a W (fun v W' => V i (upd xs i v) W')) 0 l) (hg : last.guard = none)
    (fin : ∀ xs W, G w W → (∀ j, j < l.length → V j xs W) → (∀ x, keepsB (l ++ [last]).toArray l.length x = true → (putL l 0 xs a0).eval x = a0.eval x) → (∀ j t, j < l.length → dstOf (l ++ [last]).toArray j = some t → (putL l 0 xs a0).eval (.tmp t) = xs j) →
      last.wp P (putL l 0 xs a0) W (fun a' W' => Q .normal a' W') Q) : (Code.region id (l ++ [last]).toArray true).wpIn F n P Q a0 w := by
  have htake : (l ++ [last]).toArray.toList.take l.length = l := by simp
  refine wpIn_region_any hm (wpAnyIn_tailX hF hp hd hb ha hin (m := l.length) (last := last) (by simp) (by simp) E G hEr hG V hV (fun i o a W xs hi ho hL he => ?_) (fun xs W hL hx hk hg' => ?_) _ _ _ _ ?_ ?_ ⟨by simp, fun i j hi _ => ?_, hG0, fun _ => undef, ?_, fun j hj hl => ?_⟩)
  · have h := allFrom_get l 0 step i o (by
      rw [List.getElem?_toArray, List.getElem?_append_left hi] at ho
      exact ho)
    rw [Nat.zero_add] at h
    exact h a W xs hL he
  · rw [htake] at hk hg' ⊢
    rw [if_pos (by unfold Region.wanted; rw [hg])]
    exact fin xs W hL hx hk hg'
  · simp
  · simp [Array.getD]
  · exfalso
    simp [Array.getD] at hi
  · have : ∀ k, laid (l ++ [last]).toArray a0 (Array.replicate (l ++ [last]).toArray.size false) (fun _ => undef) k = a0 := fun k => by
      induction k with
      | zero => rfl
      | succ k ih => rw [laid, if_neg (by simp [Array.getD]), ih]
    exact (this _).symm
  · exfalso
    simp [Array.getD] at hl
theorem wpIn_region_lastX {F : Fence} (hF : Wide F) {n : Nat} {id : Nat} {o : Oper} {os : List Oper} {a0 : Act} {w : World} (E : Nat → World → World → Prop) (G : World → World → Prop) (hEr : ∀ i W, E i W W) (hG : ∀ i W W', G w W → E i W W' → G w W') (hG0 : G w w.drew) (V : Nat → (Nat → Value) → World → Prop) (hV : ∀ i j xs v W W', j < (o :: os).toArray.size → j ≠ i → waits (o :: os).toArray j i = false → V j xs W → E i W W' → V j (upd xs i v) W') (hm : P.follows .mixedOrders = true) (hp : plainAll (o :: os).toArray = true) (hd : dstsB (o :: os).toArray = true) (hb : backB (o :: os).toArray = true) (ha : ancB (o :: os).toArray = true) (hin : dstIn (o :: os).toArray a0.tmps.size = true) (hg : (lastL o os).guard = none)
    (step : AllFrom (fun i o' => ∀ a W xs, G w W → EnvX (o :: os).toArray a0 V i a W xs → StepOkE P (o :: os).toArray Q (E i) o' a W (fun v W' => V i (upd xs i v) W')) 0 (initL o os))
    (fin : ∀ xs W, G w W → (∀ j, j < (initL o os).length → V j xs W) → (∀ x, keepsB (o :: os).toArray (initL o os).length x = true → (putL (initL o os) 0 xs a0).eval x = a0.eval x) → (∀ j t, j < (initL o os).length → dstOf (o :: os).toArray j = some t → (putL (initL o os) 0 xs a0).eval (.tmp t) = xs j) →
      LastOk P (lastL o os) (putL (initL o os) 0 xs a0) W Q) : (Code.region id (o :: os).toArray true).wpIn F n P Q a0 w := by
  have e := init_last os o
  rw [← e] at hp hd hb ha hin hV step fin ⊢
  exact wpIn_region_tailX hF E G hEr hG hG0 V hV hm hp hd hb ha hin step hg (fun xs W hL hx hk hg' => (fin xs W hL hx hk hg').run)
end
end Go.Proofs.Ytfconncnccgenaa
