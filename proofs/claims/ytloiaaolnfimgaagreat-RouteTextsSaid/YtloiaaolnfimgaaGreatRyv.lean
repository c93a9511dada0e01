/- Regions: values that stay, and a chain of calls in a fixed order, each with its result; what is deferred stays. -/
import Derived.Test.YtloiaaolnfimgaaGreatRy
set_option linter.unusedVariables false
set_option linter.unusedSimpArgs false
namespace Go.Proofs.YtloiaaolnfimgaaGreat
open Go.RowKit
section
variable {P : Program} {Q : Exit → Act → World → Prop}
structure EnvV (ops : Array Oper) (a0 : Act) (c : Nat → Value) (so : List Nat) (rs : List Value) (i : Nat) (a : Act) : Prop where
  keep : ∀ y, keepsB ops i y = true → a.eval y = a0.eval y
  val : ∀ j t, waits ops i j = true → dstOf ops j = some t → so.contains j = false → a.eval (.tmp t) = c j
  res : ∀ j t, j < so.length → waits ops i (so.getD j 0) = true → dstOf ops (so.getD j 0) = some t → a.eval (.tmp t) = rs.getD j undef
  defers : a.defers = a0.defers
def CvStep (P : Program) (ops : Array Oper) (Q : Exit → Act → World → Prop) (a0 : Act) (c : Nat → Value) (so : List Nat) (A : List Value → World → Prop) (i : Nat) (o : Oper) : Prop :=
  match so.idxOf? i with
  | some k => (k = 0 ∨ waits ops i (so.getD (k - 1) 0) = true) ∧ ∀ a W rs, rs.length = k → EnvV ops a0 c so rs i a → A rs W → o.guard = none ∧ o.wp P a W (fun a' W' => ∃ v, a' = a.put o.dst v ∧ A (rs ++ [v]) W') Q
  | none => ∀ a W rs, EnvV ops a0 c so rs i a → A rs W → StepOk P ops Q o a W (fun v _ => v = c i)
theorem cvStep_val {ops : Array Oper} {a0 : Act} {c : Nat → Value} {so : List Nat} {A : List Value → World → Prop} {i : Nat} {o : Oper} (h : so.idxOf? i = none) (hs : ∀ a W rs, EnvV ops a0 c so rs i a → A rs W → StepOk P ops Q o a W (fun v _ => v = c i)) : CvStep P ops Q a0 c so A i o := by
  unfold CvStep
  rw [h]
  exact hs
theorem cvStep_put {ops : Array Oper} {a0 : Act} {c : Nat → Value} {so : List Nat} {A : List Value → World → Prop} {i k : Nat} {o : Oper} (h : so.idxOf? i = some k) (hw : k = 0 ∨ waits ops i (so.getD (k - 1) 0) = true) (hs : ∀ a W rs, rs.length = k → EnvV ops a0 c so rs i a → A rs W → o.guard = none ∧ o.wp P a W (fun a' W' => ∃ v, a' = a.put o.dst v ∧ A (rs ++ [v]) W') Q) : CvStep P ops Q a0 c so A i o := by
  unfold CvStep
  rw [h]
  exact ⟨hw, hs⟩
theorem take_upd {so : List Nat} {xs : Nat → Value} {i k : Nat} {v : Value} (hkl : k < so.length) (hki : so.getD k 0 = i) (hnd : so.Nodup) : (so.take (k + 1)).map (upd xs i v) = (so.take k).map xs ++ [v] := by
  rw [List.take_succ_eq_append_getElem hkl, List.map_append, List.map_cons, List.map_nil]
  have e : so[k] = i := by rw [← hki, List.getD_eq_getElem?_getD, List.getElem?_eq_getElem hkl]; rfl
  rw [e, upd_self]
  congr 1
  apply List.map_congr_left
  intro x hx
  refine upd_ne xs v (fun e2 => ?_)
  obtain ⟨j, hj, hjx⟩ := List.getElem_of_mem hx
  rw [List.getElem_take] at hjx
  have hj' : j < k ∧ j < so.length := by rw [List.length_take] at hj; omega
  have : so[j] = so[k] := by rw [hjx, e2, e]
  have := (List.getElem_inj hnd).1 this
  omega
theorem wpIn_region_cv {F : Fence} (hF : Wide F) {n : Nat} {id : Nat} {o : Oper} {os : List Oper} {a0 : Act} {w : World} (cs : List Value) (so : List Nat) (A : List Value → World → Prop) (hA : ∀ rs W W', Later W W' → A rs W → A rs W') (hA0 : A [] w)
    (hm : P.follows .mixedOrders = true) (hp : plainAll (o :: os).toArray = true) (hd : dstsB (o :: os).toArray = true) (hb : backB (o :: os).toArray = true) (ha : ancB (o :: os).toArray = true) (hin : dstIn (o :: os).toArray a0.tmps.size = true) (hg : (lastL o os).guard = none)
    (hnd : so.Nodup) (hso : (so.all fun i => decide (i < (initL o os).length)) = true)
    (step : AllFrom (CvStep P (o :: os).toArray Q a0 (fun i => cs.getD i undef) so A) 0 (initL o os))
    (fin : ∀ xs W, A (so.map xs) W → (∀ j, j < (initL o os).length → so.contains j = false → xs j = cs.getD j undef) → (∀ y, keepsB (o :: os).toArray (initL o os).length y = true → (putL (initL o os) 0 xs a0).eval y = a0.eval y) → (∀ j t, j < (initL o os).length → dstOf (o :: os).toArray j = some t → (putL (initL o os) 0 xs a0).eval (.tmp t) = xs j) →
      LastOk P (lastL o os) (putL (initL o os) 0 xs a0) W Q) : (Code.region id (o :: os).toArray true).wpIn F n P Q a0 w := by
  refine wpIn_region_lastY hF (fun f xs W => (∀ i, f i = true → so.contains i = false → xs i = cs.getD i undef) ∧ ∃ m, m ≤ so.length ∧ (∀ k, k < so.length → f (so.getD k 0) = decide (k < m)) ∧ A ((so.take m).map xs) W) ⟨fun i h => by simp at h, 0, Nat.zero_le _, fun k _ => by simp, hA _ _ _ ((Later.refl w).drew) hA0⟩ hm hp hd hb ha hin hg ?_ ?_
  · have key : ∀ (l : List Oper) (i : Nat), AllFrom (CvStep P (o :: os).toArray Q a0 (fun i => cs.getD i undef) so A) i l → AllFrom (fun i o' => ∀ a W f xs, ((∀ i, f i = true → so.contains i = false → xs i = cs.getD i undef) ∧ ∃ m, m ≤ so.length ∧ (∀ k, k < so.length → f (so.getD k 0) = decide (k < m)) ∧ A ((so.take m).map xs) W) → EnvY (o :: os).toArray a0 f i a xs →
        StepOkY P (o :: os).toArray Q o' a W (fun v W' => (∀ j, updB f i j = true → so.contains j = false → upd xs i v j = cs.getD j undef) ∧ ∃ m, m ≤ so.length ∧ (∀ k, k < so.length → updB f i (so.getD k 0) = decide (k < m)) ∧ A ((so.take m).map (upd xs i v)) W')) i l := by
      intro l
      induction l with
      | nil => intro i h; exact h
      | cons o' l ih =>
        intro i h
        obtain ⟨h1, h2⟩ := h
        refine ⟨fun a W f xs hI he => ?_, ih _ h2⟩
        obtain ⟨hc, m, hml, hfm, hAm⟩ := hI
        have henv : EnvV (o :: os).toArray a0 (fun i => cs.getD i undef) so ((so.take m).map xs) i a := ⟨he.keep, fun j t hw ht hj => (he.val j t hw ht).trans (hc j (he.done j hw) hj), fun j t hj hw ht => (he.val _ t hw ht).trans (by
          have h5 := he.done _ hw
          rw [hfm j hj] at h5
          have h6 := of_decide_eq_true h5
          rw [List.getD_eq_getElem?_getD, List.getD_eq_getElem?_getD, List.getElem?_map, List.getElem?_take_of_lt h6, List.getElem?_eq_getElem hj]
          rfl), he.defers⟩
        unfold CvStep at h1
        cases hk : so.idxOf? i with
        | some k =>
          rw [hk] at h1
          obtain ⟨hw, h3⟩ := h1
          obtain ⟨hkl, hki⟩ := idxOf_getD hk
          have e1 : ¬ k < m := by
            have := hfm k hkl
            rw [hki, he.todo] at this
            intro h
            rw [decide_eq_true h] at this
            cases this
          have e2 : k ≤ m := by
            rcases hw with h | h
            · omega
            · by_cases h0 : k = 0
              · omega
              have h4 := he.done _ h
              rw [hfm (k - 1) (by omega)] at h4
              have := of_decide_eq_true h4
              omega
          obtain rfl : k = m := by omega
          obtain ⟨hg', h4⟩ := h3 a W _ (by rw [List.length_map, List.length_take]; omega) henv hAm
          have hsc : so.contains i = true := by
            rw [List.contains_iff_mem, ← hki, List.getD_eq_getElem?_getD, List.getElem?_eq_getElem hkl]
            exact List.getElem_mem hkl
          refine stepOkY_want hg' (Oper.wp_mono (fun a' W' ⟨v, e, hv⟩ => ⟨v, e, fun j hj hjs => ?_, k + 1, hkl, fun k' hk' => ?_, by rw [take_upd hkl hki hnd]; exact hv⟩) h4)
          · have hji : j ≠ i := fun e => by rw [e, hsc] at hjs; cases hjs
            rw [upd_ne xs v hji]
            exact hc j (by simpa [updB, hji] using hj) hjs
          · by_cases e : k' = k
            · subst e
              rw [hki]
              simp [updB]
            · have hne : so.getD k' 0 ≠ i := fun e3 => e (by
                rw [← hki, List.getD_eq_getElem?_getD, List.getD_eq_getElem?_getD, List.getElem?_eq_getElem hkl, List.getElem?_eq_getElem hk'] at e3
                exact (List.getElem_inj hnd).1 e3)
              have := hfm k' hk'
              simp only [updB, if_neg hne, this]
              exact decide_eq_decide.2 (by omega)
        | none =>
          rw [hk] at h1
          have h4 := h1 a W _ henv hAm
          have hR : ∀ v W', Later W W' → v = cs.getD i undef → (∀ j, updB f i j = true → so.contains j = false → upd xs i v j = cs.getD j undef) ∧ ∃ m, m ≤ so.length ∧ (∀ k, k < so.length → updB f i (so.getD k 0) = decide (k < m)) ∧ A ((so.take m).map (upd xs i v)) W' := fun v W' hL hv => by
            refine ⟨fun j hj hjs => ?_, m, hml, fun k hkl => ?_, ?_⟩
            rotate_left 2
            · have e : (so.take m).map (upd xs i v) = (so.take m).map xs := List.map_congr_left fun x hx => upd_ne xs v (fun e2 => by
                obtain ⟨j, hj, hjx⟩ := List.getElem_of_mem hx
                rw [List.getElem_take] at hjx
                have hj' : j < so.length := by rw [List.length_take] at hj; omega
                refine idxOf_none hk j hj' ?_
                rw [List.getD_eq_getElem?_getD, List.getElem?_eq_getElem hj', ← e2, ← hjx]
                rfl)
              rw [e]
              exact hA _ _ _ hL hAm
            · by_cases e : j = i
              · subst e; rw [upd_self]; exact hv
              · rw [upd_ne xs v e]
                exact hc j (by simpa [updB, e] using hj) hjs
            · have hne := idxOf_none hk k hkl
              simp only [updB, if_neg hne]
              exact hfm k hkl
          unfold StepOk at h4
          unfold StepOkY
          split
          · rename_i hw
            rw [if_pos hw] at h4
            exact Oper.wp_mono (fun a' W' ⟨v, e, hL, hv⟩ => ⟨v, e, hR v W' hL hv⟩) h4
          · rename_i hw
            rw [if_neg hw] at h4
            exact hR _ _ (Later.refl W) h4
    exact key _ _ step
  · intro f xs W hI hall _ hk hget
    obtain ⟨hc, m, hml, hfm, hAm⟩ := hI
    have hmm : m = so.length := by
      by_cases e : m = so.length
      · exact e
      have hlt : m < so.length := by omega
      have h1 := hfm m hlt
      rw [hall] at h1
      · simp at h1
      · have := List.all_eq_true.1 hso (so.getD m 0) (by
          rw [List.getD_eq_getElem?_getD, List.getElem?_eq_getElem hlt]
          exact List.getElem_mem hlt)
        exact of_decide_eq_true this
    subst hmm
    rw [List.take_of_length_le (Nat.le_refl _)] at hAm
    exact fin xs W hAm (fun j hj hjs => hc j (hall j hj) hjs) hk hget
end
end Go.Proofs.YtloiaaolnfimgaaGreat
