/- A region with two operations behind: the first may do anything, the second waits for it. -/
import Derived.Test.YtfconncnccgenaaOrderIn
set_option linter.unusedVariables false
set_option linter.unusedSimpArgs false
namespace Go.Proofs.Ytfconncnccgenaa
open Go.RowKit
section
variable {P : Program} {Q : Exit → Act → World → Prop}
/-- Every operation ahead of m is waited for by a later one, at most m. -/
def anc2B (ops : Array Oper) (m : Nat) : Bool := (List.range m).all fun i => (List.range (m + 1)).any fun k => decide (i < k) && waits ops k i
theorem anc2_all {ops : Array Oper} {m : Nat} (h : anc2B ops m = true) {l : Array Bool} (hcl : ∀ i j, l.getD i false = true → waits ops i j = true → l.getD j false = true) (hlast : ∀ j, waits ops m j = true → l.getD j false = true) :
    ∀ i, i < m → l.getD i false = true := by
  have key : ∀ d i, m - i = d → i < m → l.getD i false = true := by
    intro d
    induction d using Nat.strongRecOn with
    | _ d ih =>
      intro i hd hi
      unfold anc2B at h
      rw [List.all_eq_true] at h
      have h1 := h i (List.mem_range.2 hi)
      rw [List.any_eq_true] at h1
      obtain ⟨k, hk, h2⟩ := h1
      rw [List.mem_range] at hk
      simp at h2
      by_cases e : k = m
      · subst e; exact hlast i h2.2
      · exact hcl k i (ih (m - k) (by omega) k rfl (by omega)) h2.2
  exact fun i hi => key _ i rfl hi
theorem wpAnyIn_tail2 {F : Fence} (hF : Wide F) {n : Nat} {ops : Array Oper} (hp : plainAll ops = true) (hd : dstsB ops = true) (hb : backB ops = true) {m : Nat} (ha : anc2B ops m = true) {a0 : Act} (hin : dstIn ops a0.tmps.size = true) {w : World} (hm : ops.size = m + 2) {last y : Oper} (hlast : ops[m]? = some last) (hy : ops[m + 1]? = some y) (hyg : y.guard = none) (hyw : waits ops (m + 1) m = true)
    (V : Nat → Value → World → Prop) (hV : ∀ j v W W', V j v W → Later W W' → V j v W')
    (step : ∀ i o a W, i < m → ops[i]? = some o → Later w W → Env ops a0 V i a W → StepOk P ops Q o a W (V i))
    (fin : ∀ xs W, Later w W → (∀ j, j < m → V j (xs j) W) → (∀ x, keepsB ops m x = true → (putL (ops.toList.take m) 0 xs a0).eval x = a0.eval x) → (∀ j t, j < m → dstOf ops j = some t → (putL (ops.toList.take m) 0 xs a0).eval (.tmp t) = xs j) →
      Region.wanted last (yielded ops (putL (ops.toList.take m) 0 xs a0).tmps) = true ∧ last.wp P (putL (ops.toList.take m) 0 xs a0) W (fun a' W' => y.wp P a' W' (fun a W => Q .normal a W) Q) Q) :
    ∀ (fuel : Nat) (l : Array Bool) (a : Act) (W : World), l.toList.count false ≤ fuel → l.getD m false = false → l.getD (m + 1) false = false → Inv ops a0 w V l a W → wpAnyIn F n P .any ops Q fuel l a W := by
  have hlaid : ∀ (l : Array Bool) (xs : Nat → Value), l.getD m false = false → l.getD (m + 1) false = false → (∀ i, i < m → l.getD i false = true) → laid ops a0 l xs ops.size = putL (ops.toList.take m) 0 xs a0 := fun l xs hf hf1 hl => by
    rw [hm, laid, if_neg (by rw [hf1]; simp), laid, if_neg (by rw [hf]; simp)]
    have key : ∀ (os : List Oper) (k : Nat), k + os.length = m → (∀ j, j < os.length → os[j]? = ops[k + j]?) → putL os k xs (laid ops a0 l xs k) = laid ops a0 l xs m := by
      intro os
      induction os with
      | nil => intro k hk _; rw [show m = k from by simpa using hk.symm]; rfl
      | cons o os ih =>
        intro k hk hos
        rw [putL]
        have h0 : ops[k]? = some o := by have := hos 0 (by simp); simpa using this.symm
        have e : (laid ops a0 l xs k).put o.dst (xs k) = laid ops a0 l xs (k + 1) := by
          rw [laid, if_pos (hl k (by simp at hk; omega))]
          unfold dstOf
          rw [h0]
        rw [e]
        refine ih (k + 1) (by simp at hk; omega) (fun j hj => ?_)
        have := hos (j + 1) (by simp; omega)
        rw [List.getElem?_cons_succ] at this
        rw [this]
        congr 1
        omega
    refine (key (ops.toList.take m) 0 (by simp; omega) (fun j hj => ?_)).symm
    rw [List.getElem?_take_of_lt (by simp at hj; omega)]
    simp
  intro fuel
  induction fuel with
  | zero =>
    intro l a W hc hlf hlf1 hI
    exfalso
    have hmm : m < l.size := by rw [hI.size]; omega
    have hmem : false ∈ l.toList := by
      have : l[m] = false := by simpa [Array.getD, hmm] using hlf
      rw [← this]; exact Array.mem_toList_iff.2 (Array.getElem_mem hmm)
    have := List.count_pos_iff.2 hmem
    omega
  | succ fuel ih =>
    intro l a W hc hlf hlf1 hI
    refine ⟨fun hr => ?_, fun i hi => ?_⟩
    · have := ready_nil hb hI.size hr m (by omega)
      rw [hlf] at this; cases this
    obtain ⟨h1, o, ho, hdeps⟩ := mem_ready.1 hi
    have hlt : i < ops.size := (Array.getElem?_eq_some_iff.1 ho).1
    have hi' : i < l.size := by rw [hI.size]; exact hlt
    have hf : l.getD i false = false := by simp [Array.getD, hi'] at h1 ⊢; exact h1
    obtain ⟨xs, rfl, hx⟩ := hI.act
    have hdst : dstOf ops i = o.dst := by unfold dstOf; rw [ho]
    have hwl : ∀ j, waits ops i j = true → l.getD j false = true := fun j hw => by
      unfold waits at hw
      rw [ho] at hw
      obtain ⟨k, hk, h2⟩ := Array.any_eq_true.1 hw
      simp at h2
      rw [← h2.2]
      exact hdeps _ (Array.getElem_mem hk) h2.1
    have hjlt : ∀ j t, dstOf ops j = some t → j < ops.size := fun j t h => by
      unfold dstOf at h
      cases hj : ops[j]? with
      | none => rw [hj] at h; cases h
      | some o' => exact (Array.getElem?_eq_some_iff.1 hj).1
    have hts : ∀ j t, dstOf ops j = some t → t < a0.tmps.size := fun j t h => by
      unfold dstIn at hin
      rw [List.all_eq_true] at hin
      have := hin j (List.mem_range.2 (hjlt j t h))
      rw [h] at this
      simpa using this
    have hkeep : ∀ x, keepsB ops i x = true → (laid ops a0 l xs ops.size).eval x = a0.eval x := fun x hk => laid_keep x _ (fun j d hj hjd hl hx' => by
        subst hx'
        unfold keepsB at hk
        rw [List.all_eq_true] at hk
        have h3 := hk j (List.mem_range.2 hj)
        rw [hjd] at h3
        simp at h3
        rcases h3 with h3 | h3
        · subst h3; rw [hf] at hl; cases hl
        · have := hI.closed j i hl h3
          rw [hf] at this; cases this)
    have hget : ∀ j t, l.getD j false = true → dstOf ops j = some t → (laid ops a0 l xs ops.size).eval (.tmp t) = xs j := fun j t hl ht => laid_get hd ht hl (hts j t ht) _ (Nat.le_refl _) (hjlt j t ht)
    by_cases him : i = m
    · subst him
      have hall' : ∀ j, j < i → l.getD j false = true := anc2_all ha hI.closed hwl
      obtain rfl : o = last := by rw [ho] at hlast; exact Option.some.inj hlast
      have hf2 := fin xs W hI.later (fun j hj => hx j (by omega) (hall' j hj)) (fun x hk => by rw [← hlaid l xs hf hlf1 hall']; exact hkeep x hk) (fun j t hj ht => by rw [← hlaid l xs hf hlf1 hall']; exact hget j t (hall' j hj) ht)
      rw [← hlaid l xs hf hlf1 hall'] at hf2
      obtain ⟨hw2, hf2⟩ := hf2
      have hpl := plainAll_get hp ho
      have hend : ∀ a' W', y.wp P a' W' (fun a W => Q .normal a W) Q → wpAnyIn F n P .any ops Q fuel (l.setIfInBounds i true) a' W' := fun a' W' hq => by
        have hsz : (l.setIfInBounds i true).size = ops.size := by rw [Array.size_setIfInBounds, hI.size]
        have hself : (l.setIfInBounds i true).getD i false = true := by simp [Array.getD, hi']
        have hset : ∀ j, j ≠ i → (l.setIfInBounds i true).getD j false = l.getD j false := fun j hj => getD_set_ne false (fun e => hj e.symm)
        have h1f : (l.setIfInBounds i true).getD (i + 1) false = false := by rw [hset _ (by omega)]; exact hlf1
        have hcount : 0 < fuel := by
          have hil : i < l.toList.length := by simpa using hi'
          have hlv : l.toList[i] = false := by simpa [Array.getD, hi'] using hf
          have hc2 := List.count_set (a := true) (b := false) (l := l.toList) (i := i) hil
          rw [hlv, if_pos (show (false == false) = true from rfl), if_neg (show ¬ (true == false) = true from by decide)] at hc2
          have h1l : i + 1 < (l.toList.set i true).length := by rw [List.length_set, Array.length_toList, hI.size]; omega
          have hmem : false ∈ l.toList.set i true := by
            have e : (l.toList.set i true)[i + 1] = false := by
              have : i + 1 < l.size := by rw [hI.size]; omega
              rw [List.getElem_set_ne (by omega)]
              simpa [Array.getD, this] using hlf1
            rw [← e]; exact List.getElem_mem h1l
          have := List.count_pos_iff.2 hmem
          omega
        obtain ⟨f2, rfl⟩ : ∃ f2, fuel = f2 + 1 := ⟨fuel - 1, by omega⟩
        refine ⟨fun hr => ?_, fun k hk => ?_⟩
        · have := ready_nil hb hsz hr (i + 1) (by omega)
          rw [h1f] at this; cases this
        · obtain ⟨h1, o', ho', _⟩ := mem_ready.1 hk
          have hklt : k < ops.size := (Array.getElem?_eq_some_iff.1 ho').1
          have hk' : k < (l.setIfInBounds i true).size := by rw [hsz]; exact hklt
          have hkf : (l.setIfInBounds i true).getD k false = false := by
            generalize l.setIfInBounds i true = l' at *
            simp [Array.getD, hk'] at h1 ⊢
            exact h1
          have hki : k = i + 1 := by
            rcases Nat.lt_trichotomy k i with h | h | h
            · rw [hset k (by omega), hall' k h] at hkf; cases hkf
            · subst h; rw [hself] at hkf; cases hkf
            · omega
          subst hki
          obtain rfl : o' = y := by rw [ho'] at hy; exact Option.some.inj hy
          have hfin : ∀ a3 W3, Q .normal a3 W3 → wpAnyIn F n P .any ops Q f2 ((l.setIfInBounds i true).setIfInBounds (i + 1) true) a3 W3 := fun a3 W3 hq3 => by
            refine wpAnyIn_done ?_ hq3 _
            rw [List.eq_nil_iff_forall_not_mem]
            intro q hq4
            obtain ⟨g1, o4, ho4, _⟩ := mem_ready.1 hq4
            have hqlt : q < ops.size := (Array.getElem?_eq_some_iff.1 ho4).1
            have hq' : q < ((l.setIfInBounds i true).setIfInBounds (i + 1) true).size := by rw [Array.size_setIfInBounds, hsz]; exact hqlt
            have g2 : ((l.setIfInBounds i true).setIfInBounds (i + 1) true).getD q false = true := by
              by_cases e : q = i + 1
              · subst e
                simp [Array.getD]
                rw [hI.size]; exact hklt
              · rw [getD_set_ne false (fun e' => e e'.symm)]
                by_cases e2 : q = i
                · subst e2; exact hself
                · rw [hset q e2]; exact hall' q (by omega)
            generalize (l.setIfInBounds i true).setIfInBounds (i + 1) true = l' at *
            simp [Array.getD, hq'] at g1 g2
            rw [g2] at g1
            cases g1
          unfold wpOpIn
          rw [ho']
          simp only
          rw [if_pos (by unfold Region.wanted; rw [hyg])]
          exact Oper.wpIn_mono (fun a3 W3 h3 => hfin a3 W3 h3) (opIn_of_op hF (plainAll_get hp ho') hq)
      unfold wpOpIn
      rw [ho]
      simp only
      rw [if_pos hw2]
      exact Oper.wpIn_mono (fun a' W' h => hend a' W' h) (opIn_of_op hF hpl hf2)
    · by_cases him1 : i = m + 1
      · subst him1
        exfalso
        have := hwl m hyw
        rw [hlf] at this; cases this
      have henv : Env ops a0 V i (laid ops a0 l xs ops.size) W := ⟨hkeep, fun j t hw ht => by
        rw [hget j t (hwl j hw) ht]
        exact hx j (hjlt j t ht) (hwl j hw)⟩
      have hs := step i o _ W (by omega) ho hI.later henv
      have hset : ∀ j, j ≠ i → (l.setIfInBounds i true).getD j false = l.getD j false := fun j hj => getD_set_ne false (fun e => hj e.symm)
      have next : ∀ v W', Later W W' → V i v W' → Inv ops a0 w V (l.setIfInBounds i true) ((laid ops a0 l xs ops.size).put o.dst v) W' := fun v W' hL hv => by
        refine ⟨by simpa using hI.size, fun p q hp hw => ?_, hI.later.step hL, (fun j => if j = i then v else xs j), ?_, fun j hj hl => ?_⟩
        · by_cases e : p = i
          · subst e
            exact getD_set_true (hwl q hw)
          · rw [hset p e] at hp
            exact getD_set_true (hI.closed p q hp hw)
        · rw [← hdst]
          exact laid_put hd v hi' hf _ (Nat.le_refl _) hlt
        · show V j (if j = i then v else xs j) W'
          by_cases e : j = i
          · subst e; rw [if_pos rfl]; exact hv
          · rw [if_neg e]
            rw [hset j e] at hl
            exact hV j _ W W' (hx j hj hl) hL
      have hcnt : (l.setIfInBounds i true).toList.count false ≤ fuel := by
        have hil : i < l.toList.length := by simpa using hi'
        have hlv : l.toList[i] = false := by simpa [Array.getD, hi'] using hf
        have := List.count_set (a := true) (b := false) (l := l.toList) (i := i) hil
        rw [Array.toList_setIfInBounds, this, hlv, if_pos (show (false == false) = true from rfl), if_neg (show ¬ (true == false) = true from by decide)]
        have hp : 0 < l.toList.count false := List.count_pos_iff.2 (by rw [← hlv]; exact List.getElem_mem hil)
        omega
      have hlf' : (l.setIfInBounds i true).getD m false = false := by rw [hset m (fun e => him e.symm)]; exact hlf
      have hlf1' : (l.setIfInBounds i true).getD (m + 1) false = false := by rw [hset (m + 1) (fun e => him1 e.symm)]; exact hlf1
      unfold wpOpIn
      rw [ho]
      unfold StepOk at hs
      simp only
      split
      · rename_i hw
        rw [if_pos hw] at hs
        refine Oper.wpIn_mono (fun a' W' h => ?_) (opIn_of_op hF (plainAll_get hp ho) hs)
        obtain ⟨v, rfl, hL, hv⟩ := h
        exact ih _ _ _ hcnt hlf' hlf1' (next v W' hL hv)
      · rename_i hw
        rw [if_neg hw] at hs
        exact ⟨fun f _ => hF.fn f, ih _ _ _ hcnt hlf' hlf1' (next undef W (Later.refl W) hs)⟩
/-- The operation ahead of the last one, behind a name that nothing unfolds; behind it the last one. -/
structure LastOk2 (P : Program) (o y : Oper) (a : Act) (W : World) (Q : Exit → Act → World → Prop) : Prop where
  run : o.wp P a W (fun a' W' => y.wp P a' W' (fun a W => Q .normal a W) Q) Q
def init2 : Oper → Oper → List Oper → List Oper
  | _, _, [] => []
  | o, o2, o3 :: os => o :: init2 o2 o3 os
def pen2 : Oper → Oper → List Oper → Oper
  | o, _, [] => o
  | _, o2, o3 :: os => pen2 o2 o3 os
def last2 : Oper → Oper → List Oper → Oper
  | _, o2, [] => o2
  | _, o2, o3 :: os => last2 o2 o3 os
theorem init2_eq : ∀ (os : List Oper) (o o2 : Oper), init2 o o2 os ++ [pen2 o o2 os, last2 o o2 os] = o :: o2 :: os
  | [], _, _ => rfl
  | o3 :: os, o, o2 => by rw [init2, pen2, last2, List.cons_append, init2_eq os o2 o3]
theorem wpIn_region_last2 {F : Fence} (hF : Wide F) {n : Nat} {id : Nat} {o o2 : Oper} {os : List Oper} {a0 : Act} {w : World} (Vs : List Pr) (hm : P.follows .mixedOrders = true) (hp : plainAll (o :: o2 :: os).toArray = true) (hd : dstsB (o :: o2 :: os).toArray = true) (hb : backB (o :: o2 :: os).toArray = true) (ha : anc2B (o :: o2 :: os).toArray (init2 o o2 os).length = true) (hin : dstIn (o :: o2 :: os).toArray a0.tmps.size = true)
    (hg : (pen2 o o2 os).guard = none) (hg2 : (last2 o o2 os).guard = none) (hyw : waits (o :: o2 :: os).toArray ((init2 o o2 os).length + 1) (init2 o o2 os).length = true)
    (step : AllFrom (fun i o' => ∀ a W, Later w W → Env (o :: o2 :: os).toArray a0 (Vof Vs) i a W → StepOk P (o :: o2 :: os).toArray Q o' a W (Vof Vs i)) 0 (init2 o o2 os))
    (fin : ∀ xs W, Later w W → (∀ j, j < (init2 o o2 os).length → Vof Vs j (xs j) W) → (∀ x, keepsB (o :: o2 :: os).toArray (init2 o o2 os).length x = true → (putL (init2 o o2 os) 0 xs a0).eval x = a0.eval x) → (∀ j t, j < (init2 o o2 os).length → dstOf (o :: o2 :: os).toArray j = some t → (putL (init2 o o2 os) 0 xs a0).eval (.tmp t) = xs j) →
      LastOk2 P (pen2 o o2 os) (last2 o o2 os) (putL (init2 o o2 os) 0 xs a0) W Q) : (Code.region id (o :: o2 :: os).toArray true).wpIn F n P Q a0 w := by
  have e := init2_eq os o o2
  rw [← e] at hp hd hb ha hin step fin hyw ⊢
  generalize init2 o o2 os = l at *
  generalize pen2 o o2 os = x at *
  generalize last2 o o2 os = y at *
  have htake : (l ++ [x, y]).toArray.toList.take l.length = l := by simp
  refine wpIn_region_any hm (wpAnyIn_tail2 hF hp hd hb (m := l.length) ha hin (last := x) (y := y) (by simp) (by simp) (by simp) hg2 hyw (Vof Vs) (Vof.st Vs) (fun i o a W hi ho hL he => ?_) (fun xs W hL hx hk hg' => ?_) _ _ _ _ ?_ ?_ ?_ ⟨by simp, fun i j hi _ => ?_, (Later.refl w).drew, fun _ => undef, ?_, fun j hj hl => ?_⟩)
  · have h := allFrom_get l 0 step i o (by
      rw [List.getElem?_toArray, List.getElem?_append_left hi] at ho
      exact ho)
    rw [Nat.zero_add] at h
    exact h a W hL he
  · rw [htake] at hk hg' ⊢
    exact ⟨by unfold Region.wanted; rw [hg], (fin xs W hL hx hk hg').run⟩
  · simp
  · simp [Array.getD]
  · simp [Array.getD]
  · exfalso
    simp [Array.getD] at hi
  · have : ∀ k, laid (l ++ [x, y]).toArray a0 (Array.replicate (l ++ [x, y]).toArray.size false) (fun _ => undef) k = a0 := fun k => by
      induction k with
      | zero => rfl
      | succ k ih => rw [laid, if_neg (by simp [Array.getD]), ih]
    exact (this _).symm
  · exfalso
    simp [Array.getD] at hl
theorem op_assignK {o : Oper} {a : Act} {W : World} {K : Act → World → Prop} {x : Operand} (ho : o.op = .assign x) (h : K (a.put o.dst (a.eval x)) W) : o.wp P a W K Q := by
  unfold Oper.wp execOp
  simp only [ho, Sem.run_pure, Oper.upon]
  exact h
theorem op_append_bytes {o : Oper} {a : Act} {w : World} {K : Act → World → Prop} (s x : Operand) (t : TypeId)
    (ho : o.op = .call { callee := .builtin .append, args := #[s, x], argTypes := #[t, t] }) (base : Nat) (U : TypeId) (ht : P.underlying t = some (.slice U)) (hi : ByteInfo P U)
    (v : Value) (l : List UInt8) (hs : a.eval s = v) (hown : Own U w base v l)
    (A : Option Addr) (m c : Nat) (k : List UInt8) (hx : a.eval x = .slice A m c) (hm : k.length = m) (hr : Rd w A k) (hlen : l.length + m ≤ 140737488355328) (hbase : base ≤ w.heap.size)
    (h : ∀ v' w', Own U w' base v' (l ++ k) → w.grownBy w' v.ownBlock → (v'.ownBlock = v.ownBlock ∨ v'.ownBlock = some w.heap.size) → K (a.put o.dst v') w') : o.wp P a w K Q := by
  obtain ⟨v', w', hr', h2, h3, h4⟩ := run_append_bytes (P := P) w base t o.type U ht hi v l hown A m c k hm hr hlen hbase
  unfold Oper.wp execOp
  simp only [ho, resolve, invoke, builtin, Sem.run_bind, Sem.run_pure, Result.andThen_ok, List.map_toArray, List.map_cons, List.map_nil, hs, hx, hr']
  exact h v' w' h2 h3 h4
end
end Go.Proofs.Ytfconncnccgenaa
