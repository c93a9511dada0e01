/- A drawn region that fills a map of its own: each insert is an operation of its own, at whatever time; all others make values that stay true while maps are filled. -/
import Derived.Test.YtcajhdmppfiaeaaGreatGb4
import Derived.MapKept
set_option linter.unusedVariables false
set_option linter.unusedSimpArgs false
namespace Go.Proofs.YtcajhdmppfiaeaaGreat
open Go.RowKit Go.MapKept
/-- A later world, but that maps may hold more. -/
structure LaterM (w W : World) : Prop where
  os : W.os = w.os
  tape : W.tape = w.tape
  output : W.output = w.output
  size : w.heap.size ≤ W.heap.size
  block : ∀ k, k < w.heap.size → (∀ (es : Array MapEntry) (c : Nat), w.heap[k]? ≠ some (Obj.map es c)) → W.heap[k]? = w.heap[k]?
  maps : ∀ (k : Nat) (es : Array MapEntry) (c : Nat), w.heap[k]? = some (Obj.map es c) → ∃ (es' : Array MapEntry) (c' : Nat), W.heap[k]? = some (Obj.map es' c')
theorem LaterM.refl (w : World) : LaterM w w := ⟨rfl, rfl, rfl, Nat.le_refl _, fun _ _ _ => rfl, fun k es c h => ⟨es, c, h⟩⟩
theorem Later.m {w W : World} (h : Later w W) : LaterM w W := ⟨h.os, h.tape, h.output, h.size, fun k hk _ => h.block k hk, fun k es c e => ⟨es, c, (h.block k (Array.getElem?_eq_some_iff.1 e).1).trans e⟩⟩
theorem LaterM.trans {a b c : World} (h : LaterM a b) (k : LaterM b c) : LaterM a c :=
  ⟨k.os.trans h.os, k.tape.trans h.tape, k.output.trans h.output, Nat.le_trans h.size k.size, fun i hi hm => by
    have e := h.block i hi hm
    exact (k.block i (Nat.lt_of_lt_of_le hi h.size) (fun es c e' => hm es c (e.symm.trans e'))).trans e, fun i es c e => by
    obtain ⟨es', c', e'⟩ := h.maps i es c e
    exact k.maps i es' c' e'⟩
theorem Row.laterM {w W : World} {g : Nat} {t : TypeId} {cs : Array Value} (h : Row w g t cs) (k : LaterM w W) : Row W g t cs :=
  (k.block g h.lt (fun es c e => by rw [show w.heap[g]? = some (.cells cs t (0, 0)) from h] at e; cases e)).trans h
theorem LaterM.cell {w W : World} (k : LaterM w W) {b o : Nat} {v : Value} (h : w.cell? ⟨b, o, none⟩ = some v) : W.cell? ⟨b, o, none⟩ = some v :=
  (World.cell?_of_block (w := w) (a := ⟨b, o, none⟩) (k.block b (block_lt_of_cell h) (fun es c e => by
    unfold World.cell? at h
    simp only at h
    rw [e] at h
    cases h))).trans h
/-- A map of whole numbers: which keys it has, with which values. -/
def MapHas (W : World) (m : Nat) (φ : Int → Value → Prop) : Prop :=
  ∃ es clk, W.heap[m]? = some (.map es clk) ∧ (∀ k v, φ k v ↔ ∃ e ∈ es.toList, e.key = .int .i64 k ∧ e.val = v) ∧ ∀ e ∈ es.toList, ∃ k, e.key = .int .i64 k
theorem MapHas.lt {W : World} {m : Nat} {φ : Int → Value → Prop} (h : MapHas W m φ) : m < W.heap.size := by
  obtain ⟨es, clk, h1, _⟩ := h
  exact (Array.getElem?_eq_some_iff.1 h1).1
theorem MapHas.later {W W' : World} {m : Nat} {φ : Int → Value → Prop} (h : MapHas W m φ) (k : Later W W') : MapHas W' m φ := by
  obtain ⟨es, clk, h1, h2, h3⟩ := h
  exact ⟨es, clk, (k.block m (Array.getElem?_eq_some_iff.1 h1).1).trans h1, h2, h3⟩
theorem MapHas.congr {W : World} {m : Nat} {φ ψ : Int → Value → Prop} (h : MapHas W m φ) (e : ∀ k v, ψ k v ↔ φ k v) : MapHas W m ψ := by
  obtain ⟨es, clk, h1, h2, h3⟩ := h
  exact ⟨es, clk, h1, fun k v => (e k v).trans (h2 k v), h3⟩
theorem MapHas.made (w : World) : MapHas (w.alloc (.map #[] 0)) w.heap.size (fun _ _ => False) := ⟨#[], 0, heap_alloc_new w _, by simp, by simp⟩
section
variable {P : Program} {Q : Exit → Act → World → Prop}
theorem MapHas.insert {W : World} {m : Nat} {φ : Int → Value → Prop} (h : MapHas W m φ) {mt kt et : TypeId} (hm : P.underlying mt = some (.map kt et)) (hk : P.underlying kt = some (.int .i64)) (k : Int) (v : Value) (hno : ∀ v, ¬ φ k v) :
    ∃ W', (Instr.mapUpdate mt (.map (some m)) (.int .i64 k) v).run P W = .ok () W' ∧ MapHas W' m (fun k' v' => φ k' v' ∨ (k' = k ∧ v' = v)) ∧ LaterM W W' ∧ (∀ j, j ≠ m → W'.heap[j]? = W.heap[j]?) ∧ W'.heap.size = W.heap.size := by
  obtain ⟨es, clk, h1, h2, h3⟩ := h
  have hkey : IsKey (.int .i64) (.int .i64 k) := by simp [IsKey]
  have hfind : Instr.findNow (.int .i64) (.int .i64 k) es.toList 0 = some none := by
    rcases findNow_spec hkey es.toList 0 (fun x hx => by obtain ⟨k', e⟩ := h3 x hx; rw [e]; simp [IsKey]) with ⟨h, _⟩ | ⟨j, e, _, hj, he⟩
    · exact h
    · exact absurd ((h2 k e.val).2 ⟨e, List.mem_of_getElem? hj, he, rfl⟩) (hno _)
  have hrun : (Instr.mapUpdate mt (.map (some m)) (.int .i64 k) v).run P W = .ok () { W with heap := W.heap.setIfInBounds m (.map (es.push { key := .int .i64 k, val := v, born := clk }) (clk + 1)) } := by
    unfold Instr.mapUpdate
    simp only [Sem.run_bind, run_underlying hm, Result.andThen_ok, MapKept.run_getObj_map h1, run_checkKey hk hkey, run_findKey hk hfind, run_setObj_map _ h1]
  have hlt : m < W.heap.size := (Array.getElem?_eq_some_iff.1 h1).1
  have hne : ∀ j, j ≠ m → (W.heap.setIfInBounds m (.map (es.push { key := .int .i64 k, val := v, born := clk }) (clk + 1)))[j]? = W.heap[j]? := fun j hj => by
    rw [Array.getElem?_setIfInBounds, if_neg (fun e => hj e.symm)]
  refine ⟨_, hrun, ⟨_, _, (heap_set h1).1, fun k' v' => ?_, fun e he => ?_⟩, ⟨rfl, rfl, rfl, by simp, fun j hj hm' => ?_, fun j es' c' e => ?_⟩, hne, by simp⟩
  · show (φ k' v' ∨ (k' = k ∧ v' = v)) ↔ _
    rw [h2 k' v']
    simp only [Array.toList_push, List.mem_append, List.mem_singleton]
    constructor
    · rintro (⟨e, he, h⟩ | ⟨rfl, rfl⟩)
      · exact ⟨e, .inl he, h⟩
      · exact ⟨_, .inr rfl, rfl, rfl⟩
    · rintro ⟨e, he | rfl, h, h'⟩
      · exact .inl ⟨e, he, h, h'⟩
      · simp at h h'
        exact .inr ⟨h.symm, h'.symm⟩
  · simp only [Array.toList_push, List.mem_append, List.mem_singleton] at he
    rcases he with he | rfl
    · exact h3 e he
    · exact ⟨k, rfl⟩
  · exact hne j (fun e => by subst e; exact hm' _ _ h1)
  · by_cases hj : j = m
    · subst hj
      exact ⟨_, _, (heap_set h1).1⟩
    · exact ⟨es', c', (hne j hj).trans e⟩
/-- A lookup. -/
theorem MapHas.find {W : World} {m : Nat} {φ : Int → Value → Prop} (h : MapHas W m φ) {mt kt et : TypeId} (hm : P.underlying mt = some (.map kt et)) (hk : P.underlying kt = some (.int .i64)) (k : Int) :
    (∃ v, φ k v ∧ (∀ W', W'.heap[m]? = W.heap[m]? → (Instr.lookup mt (.map (some m)) (.int .i64 k) true).run P W' = .ok (.tuple #[v, .bool true]) W') ∧ ∀ W', W'.heap[m]? = W.heap[m]? → (Instr.lookup mt (.map (some m)) (.int .i64 k) false).run P W' = .ok v W') ∨
    ((∀ v, ¬ φ k v) ∧ ∀ z, (∀ W, (zeroValue et).run P W = .ok z W) → (∀ W', W'.heap[m]? = W.heap[m]? → (Instr.lookup mt (.map (some m)) (.int .i64 k) true).run P W' = .ok (.tuple #[z, .bool false]) W') ∧ ∀ W', W'.heap[m]? = W.heap[m]? → (Instr.lookup mt (.map (some m)) (.int .i64 k) false).run P W' = .ok z W') := by
  obtain ⟨es, clk, h1, h2, h3⟩ := h
  have hkey : IsKey (.int .i64) (.int .i64 k) := by simp [IsKey]
  rcases findNow_spec hkey es.toList 0 (fun x hx => by obtain ⟨k', e⟩ := h3 x hx; rw [e]; simp [IsKey]) with ⟨hf, hno⟩ | ⟨j, e, hf, hj, he⟩
  · refine .inr ⟨fun v hv => ?_, fun z hz => ⟨fun W' hW => ?_, fun W' hW => ?_⟩⟩
    · obtain ⟨e, he, hek, _⟩ := (h2 k v).1 hv
      exact hno e he hek
    · unfold Instr.lookup
      simp only [Sem.run_bind, run_underlying hm, Result.andThen_ok, MapKept.run_getObj_map (hW.trans h1), run_checkKey hk hkey, run_findKey hk hf, Sem.run_pure, hz, if_true]
    · unfold Instr.lookup
      simp only [Sem.run_bind, run_underlying hm, Result.andThen_ok, MapKept.run_getObj_map (hW.trans h1), run_checkKey hk hkey, run_findKey hk hf, Sem.run_pure, hz]
      rfl
  · refine .inl ⟨e.val, (h2 k e.val).2 ⟨e, List.mem_of_getElem? hj, he, rfl⟩, fun W' hW => ?_, fun W' hW => ?_⟩
    · unfold Instr.lookup
      simp only [Sem.run_bind, run_underlying hm, Result.andThen_ok, MapKept.run_getObj_map (hW.trans h1), run_checkKey hk hkey, run_findKey hk hf, Sem.run_pure, if_true]
    · unfold Instr.lookup
      simp only [Sem.run_bind, run_underlying hm, Result.andThen_ok, MapKept.run_getObj_map (hW.trans h1), run_checkKey hk hkey, run_findKey hk hf, Sem.run_pure]
      rfl
/-- What may be said of a value: it stays true while maps are filled. -/
structure PrM where
  R : Value → World → Prop
  st : ∀ v W W', R v W → LaterM W W' → R v W'
def PrM.eq (c : Value) : PrM := ⟨fun v _ => v = c, fun _ _ _ h _ => h⟩
def PrM.any : PrM := ⟨fun _ _ => True, fun _ _ _ _ _ => trivial⟩
def VofM (Vs : List PrM) (j : Nat) (v : Value) (W : World) : Prop := match Vs[j]? with
  | some p => p.R v W
  | none => True
theorem VofM.st (Vs : List PrM) : ∀ j v W W', VofM Vs j v W → LaterM W W' → VofM Vs j v W' := fun j v W W' h hL => by
  unfold VofM at *
  cases hj : Vs[j]? with
  | none => trivial
  | some p => rw [hj] at h; exact p.st v W W' h hL
/-- One operation: the map's making (0), an insert (which key, whose value), any other. -/
def StepM (P : Program) (ops : Array Oper) (Q : Exit → Act → World → Prop) (a0 : Act) (w : World) (mt : TypeId) (V : Nat → Value → World → Prop) (ins : Nat → Option (Int × Nat)) (cp : Nat) (i : Nat) (o : Oper) : Prop :=
  match ins i with
  | some (k, j) => o.guard = none ∧ waits ops i 0 = true ∧ waits ops i j = true ∧ ∃ tm s, dstOf ops 0 = some tm ∧ dstOf ops j = some s ∧ o.op = .insert mt (.tmp tm) (.const (.int .i64 k)) (.tmp s)
  | none => if i = 0 then o.guard = none ∧ o.op = .makeMap mt none else if i = cp then o.guard = none ∧ waits ops i 0 = true ∧ ∃ tm, dstOf ops 0 = some tm ∧ o.op = .move (.tmp tm) else ∀ a W, Below w.heap.size w W → Env ops a0 V i a W → StepOk P ops Q o a W (V i)
theorem stepM_ins {ops : Array Oper} {a0 : Act} {w : World} {mt : TypeId} {V : Nat → Value → World → Prop} {ins : Nat → Option (Int × Nat)} {cp i : Nat} {o : Oper} {k : Int} {j : Nat} {tm s : Tmp} (h : ins i = some (k, j)) (hg : o.guard = none) (hw0 : waits ops i 0 = true) (hwj : waits ops i j = true) (hd0 : dstOf ops 0 = some tm) (hdj : dstOf ops j = some s) (hop : o.op = .insert mt (.tmp tm) (.const (.int .i64 k)) (.tmp s)) : StepM P ops Q a0 w mt V ins cp i o := by
  unfold StepM
  rw [h]
  exact ⟨hg, hw0, hwj, tm, s, hd0, hdj, hop⟩
theorem stepM_make {ops : Array Oper} {a0 : Act} {w : World} {mt : TypeId} {V : Nat → Value → World → Prop} {ins : Nat → Option (Int × Nat)} {cp : Nat} {o : Oper} (h : ins 0 = none) (hg : o.guard = none) (hop : o.op = .makeMap mt none) : StepM P ops Q a0 w mt V ins cp 0 o := by
  unfold StepM
  rw [h]
  exact (if_pos rfl : _ = _) ▸ ⟨hg, hop⟩
theorem stepM_copy {ops : Array Oper} {a0 : Act} {w : World} {mt : TypeId} {V : Nat → Value → World → Prop} {ins : Nat → Option (Int × Nat)} {cp : Nat} {o : Oper} {tm : Tmp} (h : ins cp = none) (h0 : cp ≠ 0) (hg : o.guard = none) (hw0 : waits ops cp 0 = true) (hd0 : dstOf ops 0 = some tm) (hop : o.op = .move (.tmp tm)) : StepM P ops Q a0 w mt V ins cp cp o := by
  unfold StepM
  rw [h]
  simp only [if_neg h0, if_true]
  exact ⟨hg, hw0, tm, hd0, hop⟩
theorem stepM_plain {ops : Array Oper} {a0 : Act} {w : World} {mt : TypeId} {V : Nat → Value → World → Prop} {ins : Nat → Option (Int × Nat)} {cp i : Nat} {o : Oper} (h : ins i = none) (h0 : i ≠ 0) (hc : i ≠ cp) (hs : ∀ a W, Below w.heap.size w W → Env ops a0 V i a W → StepOk P ops Q o a W (V i)) : StepM P ops Q a0 w mt V ins cp i o := by
  unfold StepM
  rw [h]
  simp only [if_neg h0, if_neg hc]
  exact hs
def InsPhi (ins : Nat → Option (Int × Nat)) (f : Nat → Bool) (xs : Nat → Value) (k : Int) (v : Value) : Prop := ∃ i j, ins i = some (k, j) ∧ f i = true ∧ v = xs j
theorem wpIn_region_map {F : Fence} (hF : Wide F) {n : Nat} {id : Nat} {o : Oper} {os : List Oper} {a0 : Act} {w : World} {mt kt et : TypeId} (hmt : P.underlying mt = some (.map kt et)) (hkt : P.underlying kt = some (.int .i64))
    (V : Nat → Value → World → Prop) (hV : ∀ j v W W', V j v W → LaterM W W' → V j v W') (ins : Nat → Option (Int × Nat)) (hins : ∀ i k j, ins i = some (k, j) → ∀ i' j', ins i' = some (k, j') → i' = i) (hins0 : ins 0 = none) (hinV : ∀ i k j, ins i = some (k, j) → ∀ v W, V i v W) (hV0 : ∀ v W, V 0 v W) (cp : Nat) (hcp : cp ≠ 0) (hcpn : ins cp = none) (hVc : ∀ v W, V cp v W)
    (hm : P.follows .mixedOrders = true) (hp : plainAll (o :: os).toArray = true) (hd : dstsB (o :: os).toArray = true) (hb : backB (o :: os).toArray = true) (ha : ancB (o :: os).toArray = true) (hin : dstIn (o :: os).toArray a0.tmps.size = true) (hg : (lastL o os).guard = none)
    (step : AllFrom (StepM P (o :: os).toArray Q a0 w mt V ins cp) 0 (initL o os))
    (fin : ∀ xs W m, Below w.heap.size w W → w.heap.size ≤ m → xs 0 = .map (some m) → xs cp = .map (some m) → MapHas W m (InsPhi ins (fun j => decide (j < (initL o os).length)) xs) → (∀ j, j < (initL o os).length → V j (xs j) W) → (∀ y, keepsB (o :: os).toArray (initL o os).length y = true → (putL (initL o os) 0 xs a0).eval y = a0.eval y) → (∀ j t, j < (initL o os).length → dstOf (o :: os).toArray j = some t → (putL (initL o os) 0 xs a0).eval (.tmp t) = xs j) →
      LastOk P (lastL o os) (putL (initL o os) 0 xs a0) W Q) (h0 : 0 < (initL o os).length) (hlen : ∀ i k j, ins i = some (k, j) → i < (initL o os).length) (hcl'' : cp < (initL o os).length) : (Code.region id (o :: os).toArray true).wpIn F n P Q a0 w := by
  refine wpIn_region_lastY hF (fun f xs W => Below w.heap.size w W ∧ (∀ j, f j = true → V j (xs j) W) ∧ (∀ i k j, ins i = some (k, j) → f i = true → f j = true ∧ f 0 = true) ∧ (f 0 = true → ∃ m, w.heap.size ≤ m ∧ xs 0 = .map (some m) ∧ MapHas W m (InsPhi ins f xs)) ∧ (f cp = true → f 0 = true ∧ xs cp = xs 0))
    ⟨(Below.refl _ w).drew, fun j h => by simp at h, fun i k j _ h => by simp at h, fun h => by simp at h, fun h => by simp at h⟩ hm hp hd hb ha hin hg ?_ ?_
  · have key : ∀ (l : List Oper) (i : Nat), AllFrom (StepM P (o :: os).toArray Q a0 w mt V ins cp) i l → AllFrom (fun i o' => ∀ a W f xs, (Below w.heap.size w W ∧ (∀ j, f j = true → V j (xs j) W) ∧ (∀ i k j, ins i = some (k, j) → f i = true → f j = true ∧ f 0 = true) ∧ (f 0 = true → ∃ m, w.heap.size ≤ m ∧ xs 0 = .map (some m) ∧ MapHas W m (InsPhi ins f xs)) ∧ (f cp = true → f 0 = true ∧ xs cp = xs 0)) → EnvY (o :: os).toArray a0 f i a xs →
        StepOkY P (o :: os).toArray Q o' a W (fun v W' => Below w.heap.size w W' ∧ (∀ j, updB f i j = true → V j (upd xs i v j) W') ∧ (∀ i' k j, ins i' = some (k, j) → updB f i i' = true → updB f i j = true ∧ updB f i 0 = true) ∧ (updB f i 0 = true → ∃ m, w.heap.size ≤ m ∧ upd xs i v 0 = .map (some m) ∧ MapHas W' m (InsPhi ins (updB f i) (upd xs i v))) ∧ (updB f i cp = true → updB f i 0 = true ∧ upd xs i v cp = upd xs i v 0))) i l := by
      intro l
      induction l with
      | nil => intro i h; exact h
      | cons o' l ih =>
        intro i h
        obtain ⟨h1, h2⟩ := h
        refine ⟨fun a W f xs hI he => ?_, ih _ h2⟩
        obtain ⟨hB, hVx, hcl, hM, hC⟩ := hI
        have hti : f i = false := he.todo
        have hupf : ∀ j, j ≠ i → updB f i j = f j := fun j hj => by simp [updB, hj]
        have hupi : updB f i i = true := by simp [updB]
        have hC' : i ≠ 0 → i ≠ cp → ∀ v, updB f i cp = true → updB f i 0 = true ∧ upd xs i v cp = upd xs i v 0 := fun hi0 hic v h => by
          rw [hupf cp (fun e => hic e.symm)] at h
          obtain ⟨h1, h2⟩ := hC h
          exact ⟨by rw [hupf 0 (fun e => hi0 e.symm)]; exact h1, by rw [upd_ne xs _ (fun e => hic e.symm), upd_ne xs _ (fun e => hi0 e.symm)]; exact h2⟩
        unfold StepM at h1
        cases hk : ins i with
        | some p =>
          obtain ⟨k, j⟩ := p
          rw [hk] at h1
          obtain ⟨hgu, hw0, hwj, tm, s, hd0, hdj, hop⟩ := h1
          have hf0 : f 0 = true := he.done 0 hw0
          have hfj : f j = true := he.done j hwj
          obtain ⟨m, hm1, hm2, hm3⟩ := hM hf0
          have hji : j ≠ i := fun e => by subst e; rw [hti] at hfj; cases hfj
          have h0i : (0 : Nat) ≠ i := fun e => by rw [← e, hf0] at hti; cases hti
          have e1 : a.eval (.tmp tm) = .map (some m) := (he.val 0 tm hw0 hd0).trans hm2
          have e2 : a.eval (.tmp s) = xs j := he.val j s hwj hdj
          have e3 : a.eval (.const (.int .i64 k)) = .int .i64 k := rfl
          have hno : ∀ v, ¬ InsPhi ins f xs k v := fun v ⟨i', j', hi', hfi', _⟩ => by
            have := hins i k j hk i' j' hi'
            subst this
            rw [hti] at hfi'; cases hfi'
          obtain ⟨W', hrun, hMW, hLM, hfar, hsz⟩ := hm3.insert hmt hkt k (xs j) hno
          refine stepOkY_want hgu ?_
          unfold Oper.wp execOp
          simp only [hop, e1, e2, e3]
          simp only [Sem.run_bind, hrun, Result.andThen_ok, Sem.run_pure]
          refine ⟨undef, rfl, ⟨?_, ?_, ?_, ?_, ?_⟩⟩
          · exact hB.trans ⟨hLM.os, hLM.tape, hLM.output, hLM.size, fun q hq => hfar q (by omega)⟩
          · intro q hq
            by_cases e : q = i
            · subst e
              exact hinV q k j hk _ _
            · rw [upd_ne xs _ e]
              exact hV q _ _ _ (hVx q (by rwa [hupf q e] at hq)) hLM
          · intro i' k' j' hi' hf'
            by_cases e : i' = i
            · subst e
              rw [hk] at hi'
              injection hi' with hi'
              injection hi' with e1 e2
              subst e1 e2
              exact ⟨by rw [hupf _ hji]; exact hfj, by rw [hupf _ h0i]; exact hf0⟩
            · rw [hupf i' e] at hf'
              have := hcl i' k' j' hi' hf'
              exact ⟨by unfold updB; split <;> simp [this.1], by unfold updB; split <;> simp [this.2]⟩
          · intro _
            refine ⟨m, hm1, by rw [upd_ne xs _ h0i]; exact hm2, hMW.congr fun k' v' => ?_⟩
            constructor
            · rintro ⟨i', j', hi', hf', rfl⟩
              by_cases e : i' = i
              · subst e
                rw [hk] at hi'
                injection hi' with hi'
                injection hi' with e1 e2
                subst e1 e2
                exact .inr ⟨rfl, by rw [upd_ne xs _ hji]⟩
              · rw [hupf i' e] at hf'
                have hj' := (hcl i' k' j' hi' hf').1
                exact .inl ⟨i', j', hi', hf', by rw [upd_ne xs _ (fun e => by rw [e, hti] at hj'; cases hj')]⟩
            · rintro (⟨i', j', hi', hf', rfl⟩ | ⟨rfl, rfl⟩)
              · have e : i' ≠ i := fun e => by rw [e, hti] at hf'; cases hf'
                have hj' := (hcl i' k' j' hi' hf').1
                exact ⟨i', j', hi', by rw [hupf i' e]; exact hf', by rw [upd_ne xs _ (fun e => by rw [e, hti] at hj'; cases hj')]⟩
              · exact ⟨i, j, hk, hupi, by rw [upd_ne xs _ hji]⟩
          · by_cases hic : i = cp
            · intro _
              exfalso
              rw [hic, hcpn] at hk
              cases hk
            · exact hC' (fun e => h0i e.symm) hic _
        | none =>
          rw [hk] at h1
          have hphi : ∀ v, i ≠ 0 → ∀ k' v', InsPhi ins (updB f i) (upd xs i v) k' v' ↔ InsPhi ins f xs k' v' := fun v hi0 k' v' => by
            constructor
            · rintro ⟨i', j', hi', hf', rfl⟩
              have e : i' ≠ i := fun e => by rw [e, hk] at hi'; cases hi'
              rw [hupf i' e] at hf'
              have hj' := (hcl i' k' j' hi' hf').1
              exact ⟨i', j', hi', hf', by rw [upd_ne xs _ (fun e => by rw [e, hti] at hj'; cases hj')]⟩
            · rintro ⟨i', j', hi', hf', rfl⟩
              have e : i' ≠ i := fun e => by rw [e, hk] at hi'; cases hi'
              have hj' := (hcl i' k' j' hi' hf').1
              exact ⟨i', j', hi', by rw [hupf i' e]; exact hf', by rw [upd_ne xs _ (fun e => by rw [e, hti] at hj'; cases hj')]⟩
          have hcl' : ∀ i' k j, ins i' = some (k, j) → updB f i i' = true → updB f i j = true ∧ updB f i 0 = true := fun i' k' j' hi' hf' => by
            have e : i' ≠ i := fun e => by rw [e, hk] at hi'; cases hi'
            rw [hupf i' e] at hf'
            have := hcl i' k' j' hi' hf'
            exact ⟨by unfold updB; split <;> simp [this.1], by unfold updB; split <;> simp [this.2]⟩
          by_cases hi0 : i = 0
          · subst hi0
            rw [if_pos rfl] at h1
            obtain ⟨hgu, hop⟩ := h1
            refine stepOkY_want hgu ?_
            unfold Oper.wp execOp
            simp only [hop, Option.map_none]
            simp only [Sem.run_bind, run_makeMap, Result.andThen_ok, Sem.run_pure]
            have hL : Later W (W.alloc (.map #[] 0)) := (Later.refl W).alloc _
            refine ⟨_, rfl, ⟨hB.trans (hL.below.mono hB.size), ?_, hcl', ?_, ?_⟩⟩
            · intro q hq
              by_cases e : q = 0
              · subst e
                exact hV0 _ _
              · rw [upd_ne xs _ e]
                exact hV q _ _ _ (hVx q (by rwa [hupf q e] at hq)) hL.m
            · intro _
              refine ⟨W.heap.size, hB.size, upd_self _ _ _, (MapHas.made W).congr fun k' v' => ?_⟩
              constructor
              · rintro ⟨i', j', hi', hf', rfl⟩
                have e : i' ≠ 0 := fun e => by rw [e, hk] at hi'; cases hi'
                rw [hupf i' e] at hf'
                have := (hcl i' k' j' hi' hf').2
                rw [hti] at this
                cases this
              · intro h; exact h.elim
            · intro h
              rw [hupf cp hcp] at h
              have := (hC h).1
              rw [hti] at this
              cases this
          · rw [if_neg hi0] at h1
            by_cases hic : i = cp
            · subst hic
              rw [if_pos rfl] at h1
              obtain ⟨hgu, hw0, tm, hd0, hop⟩ := h1
              have hf0 := he.done 0 hw0
              refine stepOkY_want hgu ?_
              unfold Oper.wp execOp
              simp only [hop, Sem.run_pure]
              refine ⟨_, rfl, ⟨hB, ?_, hcl', ?_, ?_⟩⟩
              · intro q hq
                by_cases e : q = i
                · subst e
                  exact hVc _ _
                · rw [upd_ne xs _ e]
                  exact hVx q (by rwa [hupf q e] at hq)
              · intro _
                obtain ⟨m, hm1, hm2, hm3⟩ := hM hf0
                exact ⟨m, hm1, by rw [upd_ne xs _ (fun e => hi0 e.symm)]; exact hm2, hm3.congr (hphi _ hi0)⟩
              · intro _
                exact ⟨by rw [hupf 0 (fun e => hi0 e.symm)]; exact hf0, by rw [upd_self, upd_ne xs _ (fun e => hi0 e.symm)]; exact he.val 0 tm hw0 hd0⟩
            rw [if_neg hic] at h1
            have h4 := h1 a W hB ⟨he.keep, fun j t hw ht => by rw [he.val j t hw ht]; exact hVx j (he.done j hw)⟩
            have hR : ∀ v W', Later W W' → V i v W' → Below w.heap.size w W' ∧ (∀ j, updB f i j = true → V j (upd xs i v j) W') ∧ (∀ i' k j, ins i' = some (k, j) → updB f i i' = true → updB f i j = true ∧ updB f i 0 = true) ∧ (updB f i 0 = true → ∃ m, w.heap.size ≤ m ∧ upd xs i v 0 = .map (some m) ∧ MapHas W' m (InsPhi ins (updB f i) (upd xs i v))) ∧ (updB f i cp = true → updB f i 0 = true ∧ upd xs i v cp = upd xs i v 0) := fun v W' hL hv => by
              refine ⟨hB.trans (hL.below.mono hB.size), fun q hq => ?_, hcl', fun h => ?_, hC' hi0 hic v⟩
              · by_cases e : q = i
                · subst e; rw [upd_self]; exact hv
                · rw [upd_ne xs _ e]
                  exact hV q _ _ _ (hVx q (by rwa [hupf q e] at hq)) hL.m
              · rw [hupf 0 (fun e => hi0 e.symm)] at h
                obtain ⟨m, hm1, hm2, hm3⟩ := hM h
                exact ⟨m, hm1, by rw [upd_ne xs _ (fun e => hi0 e.symm)]; exact hm2, (hm3.later hL).congr (hphi v hi0)⟩
            unfold StepOk at h4
            unfold StepOkY
            split
            · rename_i hw
              rw [if_pos hw] at h4
              exact Oper.wp_mono (fun a' W' ⟨v, e, hL, hv⟩ => ⟨v, e, hR v W' hL hv⟩) h4
            · rename_i hw
              rw [if_neg hw] at h4
              exact hR _ _ (Later.refl W) h4
    exact key _ _ step
  · intro f xs W hI hall _ hk hget
    obtain ⟨hB, hVx, hcl, hM, hC⟩ := hI
    obtain ⟨m, hm1, hm2, hm3⟩ := hM (hall 0 h0)
    refine fin xs W m hB hm1 hm2 ((hC (hall cp hcl'')).2.trans hm2) (hm3.congr fun k v => ?_) (fun j hj => hVx j (hall j hj)) hk hget
    constructor
    · rintro ⟨i, j, hi, hf, rfl⟩
      exact ⟨i, j, hi, hall i (hlen i k j hi), rfl⟩
    · rintro ⟨i, j, hi, hf, rfl⟩
      exact ⟨i, j, hi, decide_eq_true (hlen i k j hi), rfl⟩
end
end Go.Proofs.YtcajhdmppfiaeaaGreat
