/- A region that goes in the order of its operations, by what each operation yields (the same obligations as for a region that draws). -/
import Derived.Test.YtloiaaolnfimgaaGreatRc2
set_option linter.unusedVariables false
set_option linter.unusedSimpArgs false
namespace Go.Proofs.YtloiaaolnfimgaaGreat
open Go.RowKit
section
variable {P : Program} {Q : Exit → Act → World → Prop}
def upTo (n k : Nat) : Array Bool := ((List.range n).map fun j => decide (j < k)).toArray
theorem upTo_get (n k j : Nat) (h : j < n) : (upTo n k).getD j false = decide (j < k) := by simp [upTo, Array.getD, h]
theorem upTo_size (n k : Nat) : (upTo n k).size = n := by simp [upTo]
theorem upTo_set (n k : Nat) (h : k < n) : (upTo n k).setIfInBounds k true = upTo n (k + 1) := by
  apply Array.ext
  · simp [upTo]
  · intro i h1 h2
    simp only [upTo, List.setIfInBounds_toArray, List.getElem_toArray, List.getElem_set, List.getElem_map, List.getElem_range]
    by_cases e : k = i
    · subst e; simp
    · rw [if_neg e]
      simp only [decide_eq_decide]
      omega
theorem wpL_values {ops : Array Oper} (hd : dstsB ops = true) (hb : backB ops = true) {a0 : Act} (hin : dstIn ops a0.tmps.size = true) {w : World} (V : Nat → Value → World → Prop) (hV : ∀ j v W W', V j v W → Later W W' → V j v W')
    (step : ∀ i o a W, ops[i]? = some o → Later w W → Env ops a0 V i a W → StepOk P ops Q o a W (V i))
    (done : ∀ xs W, Later w W → (∀ j, j < ops.size → V j (xs j) W) → Q .normal (putL ops.toList 0 xs a0) W) :
    ∀ (os : List Oper) (k : Nat) (xs : Nat → Value) (W : World), k + os.length = ops.size → (∀ j, os[j]? = ops[k + j]?) → Later w W → (∀ j, j < k → V j (xs j) W) → wpList P ops Q os (laid ops a0 (upTo ops.size k) xs ops.size) W
  | [], k, xs, W, hk, hos, hL, hx => by
    have hk' : k = ops.size := by simpa using hk
    refine wpList_nil ?_
    rw [laid_all (fun i hi => by rw [upTo_get _ _ _ hi]; simp; omega)]
    exact done xs W hL (fun j hj => hx j (by omega))
  | o :: os, k, xs, W, hk, hos, hL, hx => by
    have hlen : os.length + 1 = (o :: os).length := rfl
    have ho : ops[k]? = some o := by have := hos 0; simpa using this.symm
    have hlt : k < ops.size := (Array.getElem?_eq_some_iff.1 ho).1
    have hdst : dstOf ops k = o.dst := by unfold dstOf; rw [ho]
    have hjlt : ∀ j t, dstOf ops j = some t → j < ops.size := fun j t h => by
      unfold dstOf at h
      cases hj : ops[j]? with
      | none => rw [hj] at h; cases h
      | some o' => exact (Array.getElem?_eq_some_iff.1 hj).1
    have hts : ∀ j t, dstOf ops j = some t → t < a0.tmps.size := fun j t h => by
      unfold dstIn at hin
      rw [List.all_eq_true] at hin
      have := hin j (List.mem_range.2 (hjlt j t h))
      rw [h] at this
      simpa using this
    have hwb : ∀ i j, i < ops.size → waits ops i j = true → j < i := fun i j hi hw => by
      unfold waits at hw
      unfold backB at hb
      rw [List.all_eq_true] at hb
      have h1 := hb i (List.mem_range.2 hi)
      rw [Array.getElem?_eq_getElem hi] at hw h1
      simp only at hw h1
      obtain ⟨q, hq, h2⟩ := Array.any_eq_true.1 hw
      simp at h2
      rw [Array.all_eq_true_iff_forall_mem] at h1
      have h3 := h1 _ (Array.getElem_mem hq)
      rw [h2.1] at h3
      simp at h3
      omega
    have henv : Env ops a0 V k (laid ops a0 (upTo ops.size k) xs ops.size) W := by
      refine ⟨fun x hkx => laid_keep x _ (fun j d hj hjd hl hx' => ?_), fun j t hw ht => ?_⟩
      · subst hx'
        unfold keepsB at hkx
        rw [List.all_eq_true] at hkx
        have h3 := hkx j (List.mem_range.2 hj)
        rw [hjd] at h3
        simp at h3
        rw [upTo_get _ _ _ hj] at hl
        have hl' : j < k := by simpa using hl
        rcases h3 with h3 | h3
        · omega
        · have := hwb j k hj h3
          omega
      · have hjk := hwb k j hlt hw
        rw [laid_get hd ht (by rw [upTo_get _ _ _ (hjlt j t ht)]; simpa using hjk) (hts j t ht) _ (Nat.le_refl _) (hjlt j t ht)]
        exact hx j hjk
    have hs := step k o _ W ho hL henv
    have next : ∀ v W', Later W W' → V k v W' → wpList P ops Q os ((laid ops a0 (upTo ops.size k) xs ops.size).put o.dst v) W' := fun v W' hL' hv => by
      have e := laid_put hd (a0 := a0) (l := upTo ops.size k) (xs := xs) v (i := k) (by rw [upTo_size]; exact hlt) (by rw [upTo_get _ _ _ hlt]; simp) ops.size (Nat.le_refl _) hlt
      rw [hdst, upTo_set _ _ hlt] at e
      rw [e]
      refine wpL_values hd hb hin V hV step done os (k + 1) _ W' (by simp at hk; omega) (fun j => ?_) (hL.step hL') (fun j hj => ?_)
      · have := hos (j + 1)
        rw [List.getElem?_cons_succ] at this
        rw [this]
        congr 1
        omega
      · show V j (if j = k then v else xs j) W'
        by_cases e : j = k
        · subst e; rw [if_pos rfl]; exact hv
        · rw [if_neg e]; exact hV j _ W W' (hx j (by omega)) hL'
    refine wpList_step fun K hK => ?_
    unfold StepOk at hs
    split
    · rename_i hw
      rw [if_pos hw] at hs
      exact Oper.wp_mono (fun a' W' ⟨v, e, hL', hv⟩ => by rw [e]; exact hK _ _ (next v W' hL' hv)) hs
    · rename_i hw
      rw [if_neg hw] at hs
      exact hK _ _ (next undef W (Later.refl _) hs)
theorem wp_region_seqL {id : Nat} {l : List Oper} {a0 : Act} {w : World} (Vs : List Pr) (hd : dstsB l.toArray = true) (hb : backB l.toArray = true) (hin : dstIn l.toArray a0.tmps.size = true)
    (step : AllFrom (fun i o => ∀ a W, Later w W → Env l.toArray a0 (Vof Vs) i a W → StepOk P l.toArray Q o a W (Vof Vs i)) 0 l)
    (done : ∀ xs W, Later w W → (∀ j, j < l.length → Vof Vs j (xs j) W) → Q .normal (putL l 0 xs a0) W) : (Code.region id l.toArray false).wp P Q a0 w := by
  refine wp_region_lit ?_
  have h0 : laid l.toArray a0 (upTo l.toArray.size 0) (fun _ => undef) l.toArray.size = a0 := by
    have : ∀ k, k ≤ l.toArray.size → laid l.toArray a0 (upTo l.toArray.size 0) (fun _ => undef) k = a0 := by
      intro k
      induction k with
      | zero => intro _; rfl
      | succ k ih => intro hk; rw [laid, upTo_get _ _ _ (by omega)]; simpa using ih (by omega)
    exact this _ (Nat.le_refl _)
  have h := wpL_values hd hb hin (Vof Vs) (Vof.st Vs) (Q := Q) (P := P) (w := w) (fun i o a W ho hL he => by
    have h := allFrom_get l 0 step i o (by simpa using ho)
    rw [Nat.zero_add] at h
    exact h a W hL he) (fun xs W hL hx => done xs W hL (fun j hj => hx j (by simpa using hj))) l 0 (fun _ => undef) w (by simp) (fun j => by simp) (Later.refl _) (fun j hj => by omega)
  rwa [h0] at h
end
end Go.Proofs.YtloiaaolnfimgaaGreat
