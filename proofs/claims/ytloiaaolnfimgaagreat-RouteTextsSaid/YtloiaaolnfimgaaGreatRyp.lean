/- A region that draws, in which one operation makes a block and another one fills it: all others by what they yield. -/
import Derived.Test.YtloiaaolnfimgaaGreatRy
set_option linter.unusedVariables false
set_option linter.unusedSimpArgs false
namespace Go.Proofs.YtloiaaolnfimgaaGreat
open Go.RowKit
/-- A row of a type, of B's own, is filled anew. -/
def Put1 (B : Nat) (T : TypeId) (C : Array Value → Prop) (W W' : World) : Prop := ∃ g cs cs', B ≤ g ∧ C cs ∧ C cs' ∧ Row W g T cs ∧ Row W' g T cs' ∧ W.grownBy W' (some g)
theorem Put1.later {w W W' : World} {T : TypeId} {C : Array Value → Prop} (hL : Later w W) (h : Put1 w.heap.size T C W W') : Later w W' := by
  obtain ⟨g, cs, cs', hg, _, _, _, _, hgr⟩ := h
  exact Below.grown hL hgr hL.size (fun j e => by cases e; exact hg)
def Pr.newT (B : Nat) (T : TypeId) (C : Array Value → Prop) : Pr := ⟨fun v W => ∃ (g : Nat) (cs : Array Value), v = .pointer (some ⟨g, 0, none⟩) ∧ B ≤ g ∧ C cs ∧ Row W g T cs, fun _ _ _ ⟨g, cs, e, hb, hz, h⟩ hL => ⟨g, cs, e, hb, hz, h.later hL⟩⟩
/-- What is said of a value stays true as such a row is filled. -/
def PutOk (B : Nat) (T : TypeId) (C : Array Value → Prop) (p : Pr) : Prop := ∀ v W W', p.R v W → Put1 B T C W W' → p.R v W'
theorem putOk_eq {B : Nat} {T : TypeId} {C : Array Value → Prop} {c : Value} : PutOk B T C (Pr.eq c) := fun _ _ _ h _ => h
theorem putOk_any {B : Nat} {T : TypeId} {C : Array Value → Prop} : PutOk B T C Pr.any := fun _ _ _ h _ => h
theorem putOk_new {B : Nat} {T : TypeId} {C : Array Value → Prop} : PutOk B T C (Pr.newT B T C) := fun v W W' ⟨g, cs, e, hb, hz, hr⟩ ⟨g', c1, c2, hg', _, hz2, hr1, hr2, hgr⟩ => by
  by_cases h : g = g'
  · subst h
    exact ⟨g, c2, e, hb, hz2, hr2⟩
  · exact ⟨g, cs, e, hb, hz, hr.grown hgr (fun e' => h (Option.some.inj e'))⟩
theorem waits_lt {ops : Array Oper} (hb : backB ops = true) {i j : Nat} (hi : i < ops.size) (hw : waits ops i j = true) : j < i := by
  unfold waits at hw
  unfold backB at hb
  rw [List.all_eq_true] at hb
  have h1 := hb i (List.mem_range.2 hi)
  rw [Array.getElem?_eq_getElem hi] at hw h1
  simp only at hw h1
  obtain ⟨q, hq, h2⟩ := Array.any_eq_true.1 hw
  simp at h2
  rw [Array.all_eq_true_iff_forall_mem] at h1
  have h3 := h1 _ (Array.getElem_mem hq)
  rw [h2.1] at h3
  simp at h3
  omega
def AllPut (B : Nat) (T : TypeId) (C : Array Value → Prop) : List Pr → Prop
  | [] => True
  | p :: ps => PutOk B T C p ∧ AllPut B T C ps
theorem AllPut.vof {B : Nat} {T : TypeId} {C : Array Value → Prop} : ∀ (Vs : List Pr), AllPut B T C Vs → ∀ j v W W', Vof Vs j v W → Put1 B T C W W' → Vof Vs j v W'
  | [], _, j, v, W, W', _, _ => by unfold Vof; simp
  | p :: ps, h, 0, v, W, W', hv, hp => by
    unfold Vof at *
    simp only [List.getElem?_cons_zero] at *
    exact h.1 v W W' hv hp
  | p :: ps, h, j + 1, v, W, W', hv, hp => by
    have ih := AllPut.vof ps h.2 j v W W'
    unfold Vof at *
    simp only [List.getElem?_cons_succ] at *
    exact ih hv hp
section
variable {P : Program} {Q : Exit → Act → World → Prop}
/-- What is asked of an operation: of the one that fills, what it leaves. -/
def PutStep (P : Program) (ops : Array Oper) (Q : Exit → Act → World → Prop) (a0 : Act) (w : World) (Vs : List Pr) (p s : Nat) (T : TypeId) (C : Array Value → Prop) (FS : Array Value → World → Prop) (i : Nat) (o : Oper) : Prop :=
  if i = s then ∃ y, o.guard = none ∧ o.dst = none ∧ (∃ t, dstOf ops p = some t ∧ o.op = .store T (.tmp t) y) ∧ waits ops s p = true ∧
    (∀ a W g cs, Later w W → Env ops a0 (Vof Vs) i a W → w.heap.size ≤ g → C cs → Row W g T cs → ∃ W' cs', (Instr.storeAt T (.pointer (some ⟨g, 0, none⟩)) (a.eval y)).run P W = .ok () W' ∧ Row W' g T cs' ∧ C cs' ∧ W.grownBy W' (some g) ∧ FS cs' W')
  else ∀ a W, Later w W → Env ops a0 (Vof Vs) i a W → StepOk P ops Q o a W (Vof Vs i)
theorem putStep_val {ops : Array Oper} {a0 : Act} {w : World} {Vs : List Pr} {p s : Nat} {T : TypeId} {C : Array Value → Prop} {FS : Array Value → World → Prop} {i : Nat} {o : Oper} (h : i ≠ s) (hs : ∀ a W, Later w W → Env ops a0 (Vof Vs) i a W → StepOk P ops Q o a W (Vof Vs i)) : PutStep P ops Q a0 w Vs p s T C FS i o := by
  unfold PutStep
  rw [if_neg h]
  exact hs
theorem putStep_put {ops : Array Oper} {a0 : Act} {w : World} {Vs : List Pr} {p s : Nat} {T : TypeId} {C : Array Value → Prop} {FS : Array Value → World → Prop} {o : Oper} (y : Operand) (t : Tmp) (h1 : o.guard = none) (h2 : o.dst = none) (h3 : dstOf ops p = some t) (h4 : o.op = .store T (.tmp t) y) (h5 : waits ops s p = true)
    (h : ∀ a W g cs, Later w W → Env ops a0 (Vof Vs) s a W → w.heap.size ≤ g → C cs → Row W g T cs → ∃ W' cs', (Instr.storeAt T (.pointer (some ⟨g, 0, none⟩)) (a.eval y)).run P W = .ok () W' ∧ Row W' g T cs' ∧ C cs' ∧ W.grownBy W' (some g) ∧ FS cs' W') : PutStep P ops Q a0 w Vs p s T C FS s o := by
  unfold PutStep
  rw [if_pos rfl]
  exact ⟨y, h1, h2, ⟨t, h3, h4⟩, h5, h⟩
theorem wpIn_region_put {F : Fence} (hF : Wide F) {n : Nat} {id : Nat} {o : Oper} {os : List Oper} {a0 : Act} {w : World} (Vs : List Pr) (p s : Nat) (T : TypeId) (C : Array Value → Prop) (FS : Array Value → World → Prop) (hFS : ∀ cs W W', FS cs W → Later W W' → FS cs W')
    (hps : Vs[p]? = some (Pr.newT w.heap.size T C)) (hVs : Vs[s]? = some Pr.any) (hall : AllPut w.heap.size T C Vs) (hm : P.follows .mixedOrders = true) (hp : plainAll (o :: os).toArray = true) (hd : dstsB (o :: os).toArray = true) (hb : backB (o :: os).toArray = true) (ha : ancB (o :: os).toArray = true) (hin : dstIn (o :: os).toArray a0.tmps.size = true) (hg : (lastL o os).guard = none)
    (hsl : s < (initL o os).length) (hsw : waits (o :: os).toArray s p = true)
    (step : AllFrom (PutStep P (o :: os).toArray Q a0 w Vs p s T C FS) 0 (initL o os))
    (fin : ∀ xs W, Later w W → (∀ j, j < (initL o os).length → Vof Vs j (xs j) W) → (∃ g cs, xs p = .pointer (some ⟨g, 0, none⟩) ∧ w.heap.size ≤ g ∧ Row W g T cs ∧ FS cs W) → (∀ x, keepsB (o :: os).toArray (initL o os).length x = true → (putL (initL o os) 0 xs a0).eval x = a0.eval x) → (∀ j t, j < (initL o os).length → dstOf (o :: os).toArray j = some t → (putL (initL o os) 0 xs a0).eval (.tmp t) = xs j) →
      LastOk P (lastL o os) (putL (initL o os) 0 xs a0) W Q) : (Code.region id (o :: os).toArray true).wpIn F n P Q a0 w := by
  have hV1 : ∀ j v W W', Vof Vs j v W → (Later W W' ∨ Put1 w.heap.size T C W W') → Vof Vs j v W' := fun j v W W' h1 h2 => by
    rcases h2 with h2 | h2
    · exact Vof.st Vs j v W W' h1 h2
    · exact AllPut.vof Vs hall j v W W' h1 h2
  refine wpIn_region_lastX hF (fun i W W' => if i = s then W = W' ∨ Put1 w.heap.size T C W W' else Later W W') (fun _ W => Later w W) (fun i W => ?_) (fun i W W' hG ht => ?_) ((Later.refl w).drew)
    (fun j xs W => Vof Vs j (xs j) W ∧ (j = s → ∃ g cs, xs p = .pointer (some ⟨g, 0, none⟩) ∧ w.heap.size ≤ g ∧ Row W g T cs ∧ FS cs W)) (fun i j xs v W W' hj hne hw h ht => ?_) hm hp hd hb ha hin hg ?_ ?_
  · show if i = s then W = W ∨ Put1 w.heap.size T C W W else Later W W
    by_cases h : i = s
    · rw [if_pos h]; exact .inl rfl
    · rw [if_neg h]; exact Later.refl W
  · by_cases h : i = s
    · rw [if_pos h] at ht
      rcases ht with rfl | ht
      · exact hG
      · exact Put1.later hG ht
    · rw [if_neg h] at ht
      exact hG.step ht
  · refine ⟨?_, fun e => ?_⟩
    · rw [upd_ne xs v hne]
      refine hV1 j _ W W' h.1 ?_
      by_cases hi : i = s
      · rw [if_pos hi] at ht
        rcases ht with rfl | ht
        · exact .inl (Later.refl W)
        · exact .inr ht
      · rw [if_neg hi] at ht
        exact .inl ht
    · have hip : i ≠ p := fun e2 => by
        rw [e, e2, hsw] at hw
        cases hw
      have his : i ≠ s := fun e2 => hne (e.trans e2.symm)
      rw [if_neg his] at ht
      obtain ⟨g, cs, h1, h2, h3, h4⟩ := h.2 e
      exact ⟨g, cs, (upd_ne xs v (fun e => hip e.symm)).trans h1, h2, h3.later ht, hFS _ _ _ h4 ht⟩
  · have key : ∀ (l : List Oper) (i : Nat), i + l.length ≤ (initL o os).length → (∀ j, l[j]? = (o :: os).toArray[i + j]? ∨ l.length ≤ j) → AllFrom (PutStep P (o :: os).toArray Q a0 w Vs p s T C FS) i l → AllFrom (fun i o' => ∀ a W xs, Later w W → EnvX (o :: os).toArray a0 (fun j xs W => Vof Vs j (xs j) W ∧ (j = s → ∃ g cs, xs p = .pointer (some ⟨g, 0, none⟩) ∧ w.heap.size ≤ g ∧ Row W g T cs ∧ FS cs W)) i a W xs →
        StepOkE P (o :: os).toArray Q (fun W W' => if i = s then W = W' ∨ Put1 w.heap.size T C W W' else Later W W') o' a W (fun v W' => Vof Vs i (upd xs i v i) W' ∧ (i = s → ∃ g cs, upd xs i v p = .pointer (some ⟨g, 0, none⟩) ∧ w.heap.size ≤ g ∧ Row W' g T cs ∧ FS cs W'))) i l := by
      intro l
      induction l with
      | nil => intro i _ _ h; exact h
      | cons o' l ih =>
        intro i hil hos h
        obtain ⟨h1, h2⟩ := h
        refine ⟨fun a W xs hL he => ?_, ih (i + 1) (by simp at hil; omega) (fun j => ?_) h2⟩
        · have h3 : i < (o :: os).toArray.size := by
            have : (initL o os).length + 1 = (o :: os).length := by
              have := congrArg List.length (init_last os o)
              simpa using this
            simp at hil ⊢
            simp at this
            omega
          have hlt : ∀ j, waits (o :: os).toArray i j = true → j < (o :: os).toArray.size := fun j hw => Nat.lt_trans (waits_lt hb h3 hw) h3
          have henv : Env (o :: os).toArray a0 (Vof Vs) i a W := ⟨he.keep, fun j t hw ht => by rw [he.val j t hw ht]; exact (he.get j (hlt j hw) hw).1⟩
          unfold PutStep at h1
          by_cases hi : i = s
          · rw [if_pos hi] at h1
            obtain ⟨y, g1, g2, ⟨t, g3, g4⟩, g5, g6⟩ := h1
            have hwp : waits (o :: os).toArray i p = true := by rw [hi]; exact hsw
            have hvp := henv.get p t hwp g3
            have hxp := he.val p t hwp g3
            unfold Vof at hvp
            rw [hps] at hvp
            obtain ⟨g, cs, e1, e2, e3, e4⟩ := hvp
            obtain ⟨W', cs', f1, f2, f3, f4, f5⟩ := g6 a W g cs hL henv e2 e3 e4
            have hip : p ≠ i := fun e => by have := waits_lt hb h3 hwp; omega
            refine stepOkE_want g1 ?_
            unfold Oper.wp execOp
            simp only [g4, e1, f1, Sem.run_bind, Sem.run_pure, Result.andThen_ok, Oper.upon, g2]
            refine ⟨undef, rfl, ?_, ?_, fun _ => ?_⟩
            · show if i = s then _ else _
              rw [if_pos hi]
              exact .inr ⟨g, cs, cs', e2, e3, f3, e4, f2, f4⟩
            · unfold Vof
              rw [hi, hVs]
              trivial
            · exact ⟨g, cs', (upd_ne xs undef hip).trans (hxp.symm.trans e1), e2, f2, f5⟩
          · rw [if_neg hi] at h1
            have h3 := h1 a W hL henv
            unfold StepOk at h3
            unfold StepOkE
            split
            · rename_i hw
              rw [if_pos hw] at h3
              exact Oper.wp_mono (fun a' W' ⟨v, e, hL', hv⟩ => ⟨v, e, by first | exact hL' | (rw [if_neg hi]; exact hL'), by rw [upd_self]; exact hv, fun e => absurd e hi⟩) h3
            · rename_i hw
              rw [if_neg hw] at h3
              exact ⟨by rw [upd_self]; exact h3, fun e => absurd e hi⟩
        · rcases hos (j + 1) with h | h
          · left
            rw [List.getElem?_cons_succ] at h
            rw [h]
            congr 1
            omega
          · right
            simp at h
            omega
    refine key _ 0 (by simp) (fun j => ?_) step
    by_cases hj : j < (initL o os).length
    · left
      rw [Nat.zero_add]
      have e := init_last os o
      rw [List.getElem?_toArray, ← e, List.getElem?_append_left hj]
    · right; omega
  · exact fun xs W hL hx hk hg' => fin xs W hL (fun j hj => (hx j hj).1) ((hx s hsl).2 rfl) hk hg'
end
end Go.Proofs.YtloiaaolnfimgaaGreat
