/- Same blocks; regions with an invariant (Order6), with a pivot (Order7); tables of known values. -/
import Derived.Test.YtbjclmfhmdalkaaHp1
set_option linter.unusedVariables false
set_option linter.unusedSimpArgs false
namespace Go.Proofs.Ytbjclmfhmdalkaa
open Go.RowKit
/-- The blocks of which p holds are as they were; the streams too; no block has gone. -/
structure Same (p : Nat → Prop) (w w' : World) : Prop where
  os : w'.os = w.os
  tape : w'.tape = w.tape
  output : w'.output = w.output
  size : w.heap.size ≤ w'.heap.size
  block : ∀ k, p k → w'.heap[k]? = w.heap[k]?
theorem Same.refl (p : Nat → Prop) (w : World) : Same p w w := ⟨rfl, rfl, rfl, Nat.le_refl _, fun _ _ => rfl⟩
theorem Same.trans {p : Nat → Prop} {a b c : World} (h : Same p a b) (k : Same p b c) : Same p a c := ⟨k.os.trans h.os, k.tape.trans h.tape, k.output.trans h.output, Nat.le_trans h.size k.size, fun i hi => (k.block i hi).trans (h.block i hi)⟩
theorem Same.mono {p q : Nat → Prop} {a b : World} (h : Same p a b) (hq : ∀ k, q k → p k) : Same q a b := ⟨h.os, h.tape, h.output, h.size, fun k hk => h.block k (hq k hk)⟩
theorem Same.below {B : Nat} {a b : World} (h : Same (fun k => k < B) a b) : Below B a b := ⟨h.os, h.tape, h.output, h.size, h.block⟩
theorem Same.of_below {B : Nat} {a b : World} (h : Below B a b) : Same (fun k => k < B) a b := ⟨h.os, h.tape, h.output, h.size, h.block⟩
theorem Same.of_grown {row : Option Nat} {a b : World} (h : a.grownBy b row) : Same (fun k => k < a.heap.size ∧ some k ≠ row) a b := ⟨h.os, h.tape, h.output, h.size, fun k hk => h.block k hk.1 hk.2⟩
theorem Same.set (w : World) (p : Addr) (v : Value) : Same (fun k => k ≠ p.block) w (w.setCell p v) := ⟨rfl, rfl, rfl, by simp [World.setCell], fun k hk => Below.heap_setCell w p v k hk⟩
theorem Same.alloc (w : World) (o : Obj) : Same (fun k => k < w.heap.size) w (w.alloc o) := ⟨rfl, rfl, rfl, by simp, fun k hk => Below.heap_alloc w o k hk⟩
theorem Row.same {p : Nat → Prop} {w w' : World} {g : Nat} {t : TypeId} {cs : Array Value} (h : Row w g t cs) (hs : Same p w w') (hg : p g) : Row w' g t cs := (hs.block g hg).trans h
theorem Rd.same {p : Nat → Prop} {w w' : World} {A : Option Addr} {l : List UInt8} (h : Rd w A l) (hs : Same p w w') (hg : ∀ b o, A = some ⟨b, o, none⟩ → l ≠ [] → p b) : Rd w' A l := fun hl => by
  obtain ⟨b, o, e, hc⟩ := h hl
  exact ⟨b, o, e, fun i hi => (World.cell?_of_block (w := w) (a := ⟨b, o + i, none⟩) (hs.block b (hg b o e hl))).trans (hc i hi)⟩
section
variable {P : Program} {Q : Exit → Act → World → Prop}
theorem op_callFK {K : Act → World → Prop} {o : Oper} {a : Act} {W : World} {f : FuncId} {xs : Array Operand} {ts : Array TypeId} {vs : Array Value} (ho : o.op = .call { callee := .value (.func f), args := xs, argTypes := ts }) (hv : xs.map a.eval = vs) (eg : ∀ args w, (callFunc f args).run P w = .ok (.enter f args) w)
    (h : Calls P f vs W fun e W' => ∃ v, e = .returned v ∧ K (a.put o.dst v) W') : o.wp P a W K Q := by
  have hr : ((do let d ← resolve a.eval { callee := .value (.func f), args := xs, argTypes := ts } o.type; invoke d.target d.args) : Sem Next).run P W = .ok (.enter f vs) W := by
    simp [resolve, invoke, go_sem, hv, eg, Act.eval]
  unfold Oper.wp execOp
  simp only [ho]
  rw [hr]
  exact h.mono fun e W' ⟨v, he, hq⟩ => by subst he; exact hq
end
section
variable {P : Program} {Q : Exit → Act → World → Prop}
theorem laid_defers {ops : Array Oper} {a0 : Act} {l : Array Bool} {xs : Nat → Value} : ∀ k, (laid ops a0 l xs k).defers = a0.defers
  | 0 => rfl
  | k + 1 => by
    rw [laid]
    split
    · rw [show ((laid ops a0 l xs k).put (dstOf ops k) (xs k)).defers = (laid ops a0 l xs k).defers by unfold Act.put; split <;> rfl]
      exact laid_defers k
    · exact laid_defers k
def updB (f : Nat → Bool) (i : Nat) : Nat → Bool := fun j => if j = i then true else f j
structure InvY (I : (Nat → Bool) → (Nat → Value) → World → Prop) (ops : Array Oper) (a0 : Act) (l : Array Bool) (a : Act) (W : World) : Prop where
  size : l.size = ops.size
  closed : ∀ i j, l.getD i false = true → waits ops i j = true → l.getD j false = true
  act : ∃ xs : Nat → Value, a = laid ops a0 l xs ops.size ∧ I (fun j => l.getD j false) xs W
structure EnvY (ops : Array Oper) (a0 : Act) (f : Nat → Bool) (i : Nat) (a : Act) (xs : Nat → Value) : Prop where
  keep : ∀ x, keepsB ops i x = true → a.eval x = a0.eval x
  val : ∀ j t, waits ops i j = true → dstOf ops j = some t → a.eval (.tmp t) = xs j
  todo : f i = false
  defers : a.defers = a0.defers
  done : ∀ j, waits ops i j = true → f j = true
def StepOkY (P : Program) (ops : Array Oper) (Q : Exit → Act → World → Prop) (o : Oper) (a : Act) (W : World) (R : Value → World → Prop) : Prop :=
  if Region.wanted o (yielded ops a.tmps) then o.wp P a W (fun a' W' => ∃ v, a' = a.put o.dst v ∧ R v W') Q else R undef W
theorem stepOkY_want {ops : Array Oper} {o : Oper} {a : Act} {W : World} {R : Value → World → Prop} (hg : o.guard = none) (h : o.wp P a W (fun a' W' => ∃ v, a' = a.put o.dst v ∧ R v W') Q) : StepOkY P ops Q o a W R := by
  unfold StepOkY
  rw [if_pos (by unfold Region.wanted; rw [hg])]
  exact h
theorem stepOkY_later {ops : Array Oper} {o : Oper} {a : Act} {W : World} {R R' : Value → World → Prop} (hg : o.guard = none) (hR : ∀ v W', Later W W' → R' v W' → R v W') (h : o.wp P a W (fun a' W' => ∃ v, a' = a.put o.dst v ∧ Later W W' ∧ R' v W') Q) : StepOkY P ops Q o a W R :=
  stepOkY_want hg (Oper.wp_mono (fun a' W' ⟨v, h1, h2, h3⟩ => ⟨v, h1, hR v W' h2 h3⟩) h)
theorem wpAnyIn_tailY {F : Fence} (hF : Wide F) {n : Nat} {ops : Array Oper} (hp : plainAll ops = true) (hd : dstsB ops = true) (hb : backB ops = true) (ha : ancB ops = true) {a0 : Act} (hin : dstIn ops a0.tmps.size = true) {m : Nat} (hm : ops.size = m + 1) {last : Oper} (hlast : ops[m]? = some last)
    (I : (Nat → Bool) → (Nat → Value) → World → Prop)
    (step : ∀ i o a W f xs, i < m → ops[i]? = some o → I f xs W → EnvY ops a0 f i a xs → StepOkY P ops Q o a W (fun v W' => I (updB f i) (upd xs i v) W'))
    (fin : ∀ f xs W, I f xs W → (∀ j, j < m → f j = true) → f m = false → (∀ x, keepsB ops m x = true → (putL (ops.toList.take m) 0 xs a0).eval x = a0.eval x) → (∀ j t, j < m → dstOf ops j = some t → (putL (ops.toList.take m) 0 xs a0).eval (.tmp t) = xs j) →
      if Region.wanted last (yielded ops (putL (ops.toList.take m) 0 xs a0).tmps) then last.wp P (putL (ops.toList.take m) 0 xs a0) W (fun a' W' => Q .normal a' W') Q else Q .normal ((putL (ops.toList.take m) 0 xs a0).put last.dst undef) W) :
    ∀ (fuel : Nat) (l : Array Bool) (a : Act) (W : World), l.toList.count false ≤ fuel → l.getD m false = false → InvY I ops a0 l a W → wpAnyIn F n P .any ops Q fuel l a W := by
  have hlaid : ∀ (l : Array Bool) (xs : Nat → Value), l.getD m false = false → (∀ i, i < m → l.getD i false = true) → laid ops a0 l xs ops.size = putL (ops.toList.take m) 0 xs a0 := fun l xs hf hl => by
    rw [hm, laid, if_neg (by rw [hf]; simp)]
    have key : ∀ (os : List Oper) (k : Nat), k + os.length = m → (∀ j, j < os.length → os[j]? = ops[k + j]?) → putL os k xs (laid ops a0 l xs k) = laid ops a0 l xs m := by
      intro os
      induction os with
      | nil => intro k hk _; rw [show m = k from by simpa using hk.symm]; rfl
      | cons o os ih =>
        intro k hk hos
        rw [putL]
        have h0 : ops[k]? = some o := by have := hos 0 (by simp); simpa using this.symm
        have e : (laid ops a0 l xs k).put o.dst (xs k) = laid ops a0 l xs (k + 1) := by
          rw [laid, if_pos (hl k (by simp at hk; omega))]
          unfold dstOf
          rw [h0]
        rw [e]
        refine ih (k + 1) (by simp at hk; omega) (fun j hj => ?_)
        have := hos (j + 1) (by simp; omega)
        rw [List.getElem?_cons_succ] at this
        rw [this]
        congr 1
        omega
    refine (key (ops.toList.take m) 0 (by simp; omega) (fun j hj => ?_)).symm
    rw [List.getElem?_take_of_lt (by simp at hj; omega)]
    simp
  intro fuel
  induction fuel with
  | zero =>
    intro l a W hc hlf hI
    exfalso
    have hmm : m < l.size := by rw [hI.size]; omega
    have hmem : false ∈ l.toList := by
      have : l[m] = false := by simpa [Array.getD, hmm] using hlf
      rw [← this]; exact Array.mem_toList_iff.2 (Array.getElem_mem hmm)
    have := List.count_pos_iff.2 hmem
    omega
  | succ fuel ih =>
    intro l a W hc hlf hI
    refine ⟨fun hr => ?_, fun i hi => ?_⟩
    · have := ready_nil hb hI.size hr m (by omega)
      rw [hlf] at this; cases this
    obtain ⟨h1, o, ho, hdeps⟩ := mem_ready.1 hi
    have hlt : i < ops.size := (Array.getElem?_eq_some_iff.1 ho).1
    have hi' : i < l.size := by rw [hI.size]; exact hlt
    have hf : l.getD i false = false := by simp [Array.getD, hi'] at h1 ⊢; exact h1
    obtain ⟨xs, rfl, hx⟩ := hI.act
    have hdst : dstOf ops i = o.dst := by unfold dstOf; rw [ho]
    have hwl : ∀ j, waits ops i j = true → l.getD j false = true := fun j hw => by
      unfold waits at hw
      rw [ho] at hw
      obtain ⟨k, hk, h2⟩ := Array.any_eq_true.1 hw
      simp at h2
      rw [← h2.2]
      exact hdeps _ (Array.getElem_mem hk) h2.1
    have hjlt : ∀ j t, dstOf ops j = some t → j < ops.size := fun j t h => by
      unfold dstOf at h
      cases hj : ops[j]? with
      | none => rw [hj] at h; cases h
      | some o' => exact (Array.getElem?_eq_some_iff.1 hj).1
    have hts : ∀ j t, dstOf ops j = some t → t < a0.tmps.size := fun j t h => by
      unfold dstIn at hin
      rw [List.all_eq_true] at hin
      have := hin j (List.mem_range.2 (hjlt j t h))
      rw [h] at this
      simpa using this
    have hkeep : ∀ x, keepsB ops i x = true → (laid ops a0 l xs ops.size).eval x = a0.eval x := fun x hk => laid_keep x _ (fun j d hj hjd hl hx' => by
        subst hx'
        unfold keepsB at hk
        rw [List.all_eq_true] at hk
        have h3 := hk j (List.mem_range.2 hj)
        rw [hjd] at h3
        simp at h3
        rcases h3 with h3 | h3
        · subst h3; rw [hf] at hl; cases hl
        · have := hI.closed j i hl h3
          rw [hf] at this; cases this)
    have hget : ∀ j t, l.getD j false = true → dstOf ops j = some t → (laid ops a0 l xs ops.size).eval (.tmp t) = xs j := fun j t hl ht => laid_get hd ht hl (hts j t ht) _ (Nat.le_refl _) (hjlt j t ht)
    by_cases him : i = m
    · subst him
      have hall := anc_all ha hI.closed (by rw [hm]; simpa using hwl)
      rw [hm] at hall
      have hall' : ∀ j, j < i → l.getD j false = true := fun j hj => hall j (by omega)
      obtain rfl : o = last := by rw [ho] at hlast; exact Option.some.inj hlast
      have hf2 := fin _ xs W hx hall' hlf (fun x hk => by rw [← hlaid l xs hf hall']; exact hkeep x hk) (fun j t hj ht => by rw [← hlaid l xs hf hall']; exact hget j t (hall' j hj) ht)
      rw [← hlaid l xs hf hall'] at hf2
      have hend : ∀ a' W', Q .normal a' W' → wpAnyIn F n P .any ops Q fuel (l.setIfInBounds i true) a' W' := fun a' W' hq => by
        refine wpAnyIn_done ?_ hq _
        rw [List.eq_nil_iff_forall_not_mem]
        intro k hk
        obtain ⟨h1, o', ho', _⟩ := mem_ready.1 hk
        have hklt : k < ops.size := (Array.getElem?_eq_some_iff.1 ho').1
        have hk' : k < (l.setIfInBounds i true).size := by rw [Array.size_setIfInBounds, hI.size]; exact hklt
        have h2 : (l.setIfInBounds i true).getD k false = true := by
          by_cases e : k = i
          · subst e; simp [Array.getD, hi']
          · exact getD_set_true (hall' k (by omega))
        generalize l.setIfInBounds i true = l' at *
        simp [Array.getD, hk'] at h1 h2
        rw [h2] at h1
        cases h1
      unfold wpOpIn
      rw [ho]
      simp only
      split
      · rename_i hw
        rw [if_pos hw] at hf2
        exact Oper.wpIn_mono (fun a' W' h => hend a' W' h) (opIn_of_op hF (plainAll_get hp ho) hf2)
      · rename_i hw
        rw [if_neg hw] at hf2
        exact ⟨fun f _ => hF.fn f, hend _ _ hf2⟩
    · have henv : EnvY ops a0 (fun j => l.getD j false) i (laid ops a0 l xs ops.size) xs := ⟨hkeep, fun j t hw ht => hget j t (hwl j hw) ht, hf, laid_defers _, fun j hw => hwl j hw⟩
      have hs := step i o _ W _ xs (by omega) ho hx henv
      have hset : ∀ j, j ≠ i → (l.setIfInBounds i true).getD j false = l.getD j false := fun j hj => getD_set_ne false (fun e => hj e.symm)
      have hupd : (fun j => (l.setIfInBounds i true).getD j false) = updB (fun j => l.getD j false) i := by
        funext j
        by_cases e : j = i
        · subst e; simp [updB, Array.getD, hi']
        · rw [hset j e]; simp [updB, e]
      have next : ∀ v W', I (updB (fun j => l.getD j false) i) (upd xs i v) W' → InvY I ops a0 (l.setIfInBounds i true) ((laid ops a0 l xs ops.size).put o.dst v) W' := fun v W' hv => by
        refine ⟨by simpa using hI.size, fun p q hp hw => ?_, upd xs i v, ?_, ?_⟩
        · by_cases e : p = i
          · subst e
            exact getD_set_true (hwl q hw)
          · rw [hset p e] at hp
            exact getD_set_true (hI.closed p q hp hw)
        · rw [← hdst]
          exact laid_put hd v hi' hf _ (Nat.le_refl _) hlt
        · rw [hupd]; exact hv
      have hcnt : (l.setIfInBounds i true).toList.count false ≤ fuel := by
        have hil : i < l.toList.length := by simpa using hi'
        have hlv : l.toList[i] = false := by simpa [Array.getD, hi'] using hf
        have := List.count_set (a := true) (b := false) (l := l.toList) (i := i) hil
        rw [Array.toList_setIfInBounds, this, hlv, if_pos (show (false == false) = true from rfl), if_neg (show ¬ (true == false) = true from by decide)]
        have hp : 0 < l.toList.count false := List.count_pos_iff.2 (by rw [← hlv]; exact List.getElem_mem hil)
        omega
      have hlf' : (l.setIfInBounds i true).getD m false = false := by rw [hset m (fun e => him e.symm)]; exact hlf
      unfold wpOpIn
      rw [ho]
      unfold StepOkY at hs
      simp only
      split
      · rename_i hw
        rw [if_pos hw] at hs
        refine Oper.wpIn_mono (fun a' W' h => ?_) (opIn_of_op hF (plainAll_get hp ho) hs)
        obtain ⟨v, rfl, hv⟩ := h
        exact ih _ _ _ hcnt hlf' (next v W' hv)
      · rename_i hw
        rw [if_neg hw] at hs
        exact ⟨fun f _ => hF.fn f, ih _ _ _ hcnt hlf' (next undef W hs)⟩
theorem wpIn_region_tailY {F : Fence} (hF : Wide F) {n : Nat} {id : Nat} {l : List Oper} {last : Oper} {a0 : Act} {w : World} (I : (Nat → Bool) → (Nat → Value) → World → Prop) (hI0 : I (fun _ => false) (fun _ => undef) w.drew) (hm : P.follows .mixedOrders = true) (hp : plainAll (l ++ [last]).toArray = true) (hd : dstsB (l ++ [last]).toArray = true) (hb : backB (l ++ [last]).toArray = true) (ha : ancB (l ++ [last]).toArray = true) (hin : dstIn (l ++ [last]).toArray a0.tmps.size = true)
    (step : AllFrom (fun i o => ∀ a W f xs, I f xs W → EnvY (l ++ [last]).toArray a0 f i a xs → StepOkY P (l ++ [last]).toArray Q o a W (fun v W' => I (updB f i) (upd xs i v) W')) 0 l) (hg : last.guard = none)
    (fin : ∀ f xs W, I f xs W → (∀ j, j < l.length → f j = true) → f l.length = false → (∀ x, keepsB (l ++ [last]).toArray l.length x = true → (putL l 0 xs a0).eval x = a0.eval x) → (∀ j t, j < l.length → dstOf (l ++ [last]).toArray j = some t → (putL l 0 xs a0).eval (.tmp t) = xs j) →
      last.wp P (putL l 0 xs a0) W (fun a' W' => Q .normal a' W') Q) : (Code.region id (l ++ [last]).toArray true).wpIn F n P Q a0 w := by
  have htake : (l ++ [last]).toArray.toList.take l.length = l := by simp
  refine wpIn_region_any hm (wpAnyIn_tailY hF hp hd hb ha hin (m := l.length) (last := last) (by simp) (by simp) I (fun i o a W f xs hi ho hL he => ?_) (fun f xs W hL hd0 hm0 hk hg' => ?_) _ _ _ _ ?_ ?_ ⟨by simp, fun i j hi _ => ?_, fun _ => undef, ?_, ?_⟩)
  · have h := allFrom_get l 0 step i o (by
      rw [List.getElem?_toArray, List.getElem?_append_left hi] at ho
      exact ho)
    rw [Nat.zero_add] at h
    exact h a W f xs hL he
  · rw [htake] at hk hg' ⊢
    rw [if_pos (by unfold Region.wanted; rw [hg])]
    exact fin f xs W hL hd0 hm0 hk hg'
  · simp
  · simp [Array.getD]
  · exfalso
    simp [Array.getD] at hi
  · have : ∀ k, laid (l ++ [last]).toArray a0 (Array.replicate (l ++ [last]).toArray.size false) (fun _ => undef) k = a0 := fun k => by
      induction k with
      | zero => rfl
      | succ k ih => rw [laid, if_neg (by simp [Array.getD]), ih]
    exact (this _).symm
  · have e : (fun j => (Array.replicate (l ++ [last]).toArray.size false).getD j false) = fun _ => false := by
      funext j
      simp [Array.getD]
    rw [e]
    exact hI0
theorem wpIn_region_lastY {F : Fence} (hF : Wide F) {n : Nat} {id : Nat} {o : Oper} {os : List Oper} {a0 : Act} {w : World} (I : (Nat → Bool) → (Nat → Value) → World → Prop) (hI0 : I (fun _ => false) (fun _ => undef) w.drew) (hm : P.follows .mixedOrders = true) (hp : plainAll (o :: os).toArray = true) (hd : dstsB (o :: os).toArray = true) (hb : backB (o :: os).toArray = true) (ha : ancB (o :: os).toArray = true) (hin : dstIn (o :: os).toArray a0.tmps.size = true) (hg : (lastL o os).guard = none)
    (step : AllFrom (fun i o' => ∀ a W f xs, I f xs W → EnvY (o :: os).toArray a0 f i a xs → StepOkY P (o :: os).toArray Q o' a W (fun v W' => I (updB f i) (upd xs i v) W')) 0 (initL o os))
    (fin : ∀ f xs W, I f xs W → (∀ j, j < (initL o os).length → f j = true) → f (initL o os).length = false → (∀ x, keepsB (o :: os).toArray (initL o os).length x = true → (putL (initL o os) 0 xs a0).eval x = a0.eval x) → (∀ j t, j < (initL o os).length → dstOf (o :: os).toArray j = some t → (putL (initL o os) 0 xs a0).eval (.tmp t) = xs j) →
      LastOk P (lastL o os) (putL (initL o os) 0 xs a0) W Q) : (Code.region id (o :: os).toArray true).wpIn F n P Q a0 w := by
  have e := init_last os o
  rw [← e] at hp hd hb ha hin step fin ⊢
  exact wpIn_region_tailY hF I hI0 hm hp hd hb ha hin step hg (fun f xs W hL hd0 hm0 hk hg' => (fin f xs W hL hd0 hm0 hk hg').run)
end
section
variable {P : Program} {Q : Exit → Act → World → Prop}
/-- What is known as an operation comes up: x: the pivot's value, if it has run (d). -/
structure EnvP (ops : Array Oper) (a0 : Act) (p : Nat) (c : Nat → Value) (A : World → Prop) (B : Value → World → Prop) (i : Nat) (a : Act) (W : World) (d : Bool) (x : Value) : Prop where
  keep : ∀ y, keepsB ops i y = true → a.eval y = a0.eval y
  val : ∀ j t, waits ops i j = true → dstOf ops j = some t → (j == p) = false → a.eval (.tmp t) = c j
  piv : ∀ t, waits ops i p = true → dstOf ops p = some t → a.eval (.tmp t) = x
  ahead : d = false → A W
  behind : d = true → B x W
  waits : waits ops i p = true → d = true
  defers : a.defers = a0.defers
theorem EnvP.both {ops : Array Oper} {a0 : Act} {p : Nat} {c : Nat → Value} {A : World → Prop} {B : Value → World → Prop} {i : Nat} {a : Act} {W : World} {d : Bool} {x : Value} (he : EnvP ops a0 p c A B i a W d x) {C : World → Prop} (hA : ∀ W, A W → C W) (hB : ∀ x W, B x W → C W) : C W := by
  cases d
  · exact hA _ (he.ahead rfl)
  · exact hB _ _ (he.behind rfl)
def PivStep (P : Program) (ops : Array Oper) (Q : Exit → Act → World → Prop) (a0 : Act) (p : Nat) (c : Nat → Value) (A : World → Prop) (B : Value → World → Prop) (i : Nat) (o : Oper) : Prop :=
  match i == p with
  | true => ∀ a W, EnvP ops a0 p c A B i a W false undef → A W → o.guard = none ∧ o.wp P a W (fun a' W' => ∃ v, a' = a.put o.dst v ∧ B v W') Q
  | false => ∀ a W d x, EnvP ops a0 p c A B i a W d x → StepOk P ops Q o a W (fun v W' => v = c i)
theorem wpIn_region_pivot {F : Fence} (hF : Wide F) {n : Nat} {id : Nat} {o : Oper} {os : List Oper} {a0 : Act} {w : World} (p : Nat) (cs : List Value) (A : World → Prop) (B : Value → World → Prop) (hA : ∀ W W', Later W W' → A W → A W') (hB : ∀ x W W', Later W W' → B x W → B x W') (hA0 : A w) (hm : P.follows .mixedOrders = true) (hp : plainAll (o :: os).toArray = true) (hd : dstsB (o :: os).toArray = true) (hb : backB (o :: os).toArray = true) (ha : ancB (o :: os).toArray = true) (hin : dstIn (o :: os).toArray a0.tmps.size = true) (hg : (lastL o os).guard = none) (hpl : decide (p < (initL o os).length) = true) (hself : waits (o :: os).toArray p p = false)
    (step : AllFrom (PivStep P (o :: os).toArray Q a0 p (fun i => cs.getD i undef) A B) 0 (initL o os))
    (fin : ∀ xs W x, B x W → (∀ j, j < (initL o os).length → xs j = if j = p then x else cs.getD j undef) → (∀ y, keepsB (o :: os).toArray (initL o os).length y = true → (putL (initL o os) 0 xs a0).eval y = a0.eval y) → (∀ j t, j < (initL o os).length → dstOf (o :: os).toArray j = some t → (putL (initL o os) 0 xs a0).eval (.tmp t) = xs j) →
      LastOk P (lastL o os) (putL (initL o os) 0 xs a0) W Q) : (Code.region id (o :: os).toArray true).wpIn F n P Q a0 w := by
  have hpl' := of_decide_eq_true hpl
  refine wpIn_region_lastY hF (fun f xs W => (∀ i, f i = true → i ≠ p → xs i = cs.getD i undef) ∧ (f p = false → A W) ∧ (f p = true → B (xs p) W)) ⟨fun i h => by simp at h, fun _ => hA _ _ ((Later.refl w).drew) hA0, fun h => by simp at h⟩ hm hp hd hb ha hin hg ?_ ?_
  · have key : ∀ (l : List Oper) (i : Nat), AllFrom (PivStep P (o :: os).toArray Q a0 p (fun i => cs.getD i undef) A B) i l → AllFrom (fun i o' => ∀ a W f xs, ((∀ i, f i = true → i ≠ p → xs i = cs.getD i undef) ∧ (f p = false → A W) ∧ (f p = true → B (xs p) W)) → EnvY (o :: os).toArray a0 f i a xs → StepOkY P (o :: os).toArray Q o' a W (fun v W' => (∀ j, updB f i j = true → j ≠ p → upd xs i v j = cs.getD j undef) ∧ (updB f i p = false → A W') ∧ (updB f i p = true → B (upd xs i v p) W'))) i l := by
      intro l
      induction l with
      | nil => intro i h; exact h
      | cons o' l ih =>
        intro i h
        obtain ⟨h1, h2⟩ := h
        refine ⟨fun a W f xs hI he => ?_, ih _ h2⟩
        obtain ⟨hc, ha1, hb1⟩ := hI
        by_cases hip : i = p
        · subst hip
          have h3 : ∀ a W, EnvP (o :: os).toArray a0 i (fun i => cs.getD i undef) A B i a W false undef → A W → o'.guard = none ∧ o'.wp P a W (fun a' W' => ∃ v, a' = a.put o'.dst v ∧ B v W') Q := by
            unfold PivStep at h1
            rw [beq_self_eq_true] at h1
            exact h1
          have hf := he.todo
          obtain ⟨hg', h4⟩ := h3 a W ⟨he.keep, fun j t hw ht hj => (he.val j t hw ht).trans (hc j (he.done j hw) (by simpa using hj)), fun t hw _ => (by rw [hself] at hw; cases hw), fun _ => ha1 hf, (by intro h; cases h), (by intro hw; rw [hself] at hw; cases hw), he.defers⟩ (ha1 hf)
          refine stepOkY_want hg' (Oper.wp_mono (fun a' W' ⟨v, e, hv⟩ => ⟨v, e, fun j hj hjp => ?_, fun h => ?_, fun _ => ?_⟩) h4)
          · rw [upd_ne xs v hjp]
            refine hc j ?_ hjp
            simpa [updB, hjp] using hj
          · simp [updB] at h
          · rw [upd_self]; exact hv
        · have h3 : ∀ a W d x, EnvP (o :: os).toArray a0 p (fun i => cs.getD i undef) A B i a W d x → StepOk P (o :: os).toArray Q o' a W (fun v W' => v = cs.getD i undef) := by
            unfold PivStep at h1
            rw [show (i == p) = false by simpa using hip] at h1
            exact h1
          have h4 := h3 a W (f p) (xs p) ⟨he.keep, fun j t hw ht hj => (he.val j t hw ht).trans (hc j (he.done j hw) (by simpa using hj)), fun t hw ht => he.val p t hw ht, ha1, hb1, fun hw => he.done p hw, he.defers⟩
          have hpi : p ≠ i := fun e => hip e.symm
          have hR : ∀ v W', Later W W' → v = cs.getD i undef → (∀ j, updB f i j = true → j ≠ p → upd xs i v j = cs.getD j undef) ∧ (updB f i p = false → A W') ∧ (updB f i p = true → B (upd xs i v p) W') := fun v W' hL hv => by
            refine ⟨fun j hj hjp => ?_, fun h => ?_, fun h => ?_⟩
            · by_cases e : j = i
              · subst e; rw [upd_self]; exact hv
              · rw [upd_ne xs v e]
                exact hc j (by simpa [updB, e] using hj) hjp
            · exact hA _ _ hL (ha1 (by simpa [updB, hpi] using h))
            · rw [upd_ne xs v hpi]
              exact hB _ _ _ hL (hb1 (by simpa [updB, hpi] using h))
          unfold StepOk at h4
          unfold StepOkY
          split
          · rename_i hw
            rw [if_pos hw] at h4
            exact Oper.wp_mono (fun a' W' ⟨v, e, hL, hv⟩ => ⟨v, e, hR v W' hL hv⟩) h4
          · rename_i hw
            rw [if_neg hw] at h4
            exact hR _ _ (Later.refl W) h4
    exact key _ _ step
  · intro f xs W hI hall _ hk hget
    obtain ⟨hc, _, hb1⟩ := hI
    refine fin xs W (xs p) (hb1 (hall p hpl')) (fun j hj => ?_) hk hget
    by_cases e : j = p
    · rw [if_pos e, e]
    · rw [if_neg e]; exact hc j (hall j hj) e
end
/-- What each operation makes, where it is known ahead. -/
def Tab (cs : List (Option Value)) (f : Nat → Bool) (ys : Nat → Value) : Prop := ∀ j v, cs[j]? = some (some v) → f j = true → ys j = v
theorem Tab.nil (cs : List (Option Value)) (ys : Nat → Value) : Tab cs (fun _ => false) ys := fun _ _ _ h => by cases h
theorem Tab.put {cs : List (Option Value)} {f : Nat → Bool} {ys : Nat → Value} (h : Tab cs f ys) (k : Nat) (x : Value) (hk : ∀ v, cs[k]? = some (some v) → x = v) : Tab cs (updB f k) (upd ys k x) := fun j v hj hf => by
  by_cases e : j = k
  · subst e
    simp [upd]
    exact hk v hj
  · simp [updB, e] at hf
    simp [upd, e]
    exact h j v hj hf
theorem IsRun.same {p : Nat → Prop} {w w' : World} {g : Nat} {l : List UInt8} (h : IsRun w g l) (hs : Same p w w') (hg : p g) : IsRun w' g l := by
  obtain ⟨q, h1, h2, h3⟩ := h
  exact ⟨q, h1, h2, h3.same hs hg⟩
theorem IsMac.same {p : Nat → Prop} {w w' : World} {g gr : Nat} {key msg : List UInt8} (h : IsMac w g gr key msg) (hs : Same p w w') (h1 : p g) (h2 : p gr) : IsMac w' g gr key msg := ⟨h.ne, h.row.same hs h1, h.run.same hs h2⟩
end Go.Proofs.Ytbjclmfhmdalkaa
