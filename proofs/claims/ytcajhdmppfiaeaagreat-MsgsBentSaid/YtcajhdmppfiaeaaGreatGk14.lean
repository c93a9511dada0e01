/- Walks, msgs: Check, up to what it asks. -/
import Derived.Test.YtcajhdmppfiaeaaGreatGk13
set_option linter.unusedVariables false
set_option linter.unusedSimpArgs false
namespace Go.Proofs.YtcajhdmppfiaeaaGreat
open Go.RowKit Ms
section
variable {P : Program} {w : World} {ops : Array Oper} {rest : List Oper} {o : Oper} {a : Act} {Q : Exit → Act → World → Prop}
theorem wpList_on (hw : Region.wanted o (yielded ops a.tmps) = true) (h : ∀ K : Act → World → Prop, (∀ a w, wpList P ops Q rest a w → K a w) → o.wp P a w K Q) : wpList P ops Q (o :: rest) a w :=
  wpList_step fun K hK => by
    rw [if_pos hw]
    exact h K hK
theorem wpList_loadG (hw : Region.wanted o (yielded ops a.tmps) = true) (T : TypeId) (x : Operand) (ho : o.op = .load T x) (vx : Value) (hx : a.eval x = vx) {v : Value} {w' : World} (hr : (Instr.loadAt T vx).run P w = .ok v w')
    (h : wpList P ops Q rest (a.put o.dst v) w') : wpList P ops Q (o :: rest) a w :=
  wpList_on hw fun _ hK => by
    unfold Oper.wp execOp
    simp only [ho, Sem.run_bind, Sem.run_pure, Result.andThen_ok, hx, hr]
    exact hK _ _ h
theorem wpList_buildG (hw : Region.wanted o (yielded ops a.tmps) = true) (T : TypeId) (parts : Array (Nat × Operand)) (ho : o.op = .build T parts) (vs : Array (Nat × Value)) (hp : (parts.map fun (i, x) => (i, a.eval x)) = vs)
    {v : Value} {w' : World} (hr : (Instr.build T vs).run P w = .ok v w')
    (h : wpList P ops Q rest (a.put o.dst v) w') : wpList P ops Q (o :: rest) a w :=
  wpList_on hw fun _ hK => by
    unfold Oper.wp execOp
    simp only [ho, Sem.run_bind, Sem.run_pure, Result.andThen_ok, hp, hr]
    exact hK _ _ h
theorem wpList_bsG (hw : Region.wanted o (yielded ops a.tmps) = true) (T n : Nat) (parts : Array (Nat × Operand)) (ho : o.op = .buildSlice T n parts) (vs : Array (Nat × Value)) (hp : (parts.map fun (i, x) => (i, a.eval x)) = vs) {v : Value} {w' : World} (hr : (Instr.buildSlice T n vs).run P w = .ok v w') (h : wpList P ops Q rest (a.put o.dst v) w') : wpList P ops Q (o :: rest) a w :=
  wpList_on hw fun _ hK => by
    unfold Oper.wp execOp
    simp only [ho, hp, hr, Sem.run_bind, Sem.run_pure, Result.andThen_ok]
    exact hK _ _ h
theorem wpList_binG (hw : Region.wanted o (yielded ops a.tmps) = true) (b : BinOp) (T T2 : TypeId) (x y : Operand) (ho : o.op = .binOp b T x y T2) (vx vy : Value) (hx : a.eval x = vx) (hy : a.eval y = vy) (hg : (eqGuard b T x y vx vy).run P w = .ok () w)
    {v : Value} {w' : World} (hr : (binOp b T vx vy).run P w = .ok v w')
    (h : wpList P ops Q rest (a.put o.dst v) w') : wpList P ops Q (o :: rest) a w :=
  wpList_on hw fun _ hK => by
    unfold Oper.wp execOp
    simp only [ho, Sem.run_bind, Sem.run_pure, Result.andThen_ok, hx, hy, hg, hr]
    exact hK _ _ h
theorem wpList_callVG (hw : Region.wanted o (yielded ops a.tmps) = true) {f : FuncId} {bound all : Array Value} (x : Operand) (xs : Array Operand) (ts : Array TypeId) {vs : Array Value} (ho : o.op = .call { callee := .value x, args := xs, argTypes := ts }) (hf : a.eval x = .func (.func f) #[] bound) (hv : xs.map a.eval = vs) (eg : ∀ args w, (callFunc f args).run P w = .ok (.enter f args) w) (hall : vs ++ bound = all)
    (h : Calls P f all w fun e w' => ∃ v, e = .returned v ∧ wpList P ops Q rest (a.put o.dst v) w') : wpList P ops Q (o :: rest) a w := by
  subst hall
  refine wpList_on hw fun K hK => ?_
  have hr : ((do let d ← resolve a.eval { callee := .value x, args := xs, argTypes := ts } o.type; invoke d.target d.args) : Sem Next).run P w = .ok (.enter f (vs ++ bound)) w := by
    simp only [resolve, hf, hv]
    simp [invoke, go_sem, eg]
  unfold Oper.wp execOp
  simp only [ho]
  rw [hr]
  exact h.mono fun e W' ⟨v, he, hq⟩ => by subst he; exact hK _ _ hq
theorem op_lookup {W : World} {R : Value → World → Prop} {t : TypeId} {x y : Operand} {ok : Bool} {vx vy v : Value} (ho : o.op = .lookup t x y ok) (hx : a.eval x = vx) (hy : a.eval y = vy) (hr : (Instr.lookup t vx vy ok).run P W = .ok v W) (h : R v W) : o.wp P a W (fun a' W' => ∃ v, a' = a.put o.dst v ∧ Later W W' ∧ R v W') Q := by
  refine op_value (v := v) (W' := W) ?_ (Later.refl _) h
  unfold execOp
  simp only [ho, hx, hy, hr, Sem.run_bind, Sem.run_pure, Result.andThen_ok]
theorem op_field {W : World} {R : Value → World → Prop} {t : TypeId} {x : Operand} {i : Nat} {vx v : Value} (ho : o.op = .field t x i) (hx : a.eval x = vx) (hr : (Instr.field t vx i).run P W = .ok v W) (h : R v W) : o.wp P a W (fun a' W' => ∃ v, a' = a.put o.dst v ∧ Later W W' ∧ R v W') Q := by
  refine op_value (v := v) (W' := W) ?_ (Later.refl _) h
  unfold execOp
  simp only [ho, hx, hr, Sem.run_bind, Sem.run_pure, Result.andThen_ok]
theorem last2_store {o y : Oper} {W W' : World} {t : TypeId} {x z v : Operand} {vx vz vv : Value} (ho : o.op = .store t x z) (hd : o.dst = none) (hx : a.eval x = vx) (hz : a.eval z = vz) (hr : (Instr.storeAt t vx vz).run P W = .ok () W') (hy : y.op = .assign v) (hv : a.eval v = vv) (h : Q .normal (a.put y.dst vv) W') : LastOk2 P o y a W Q :=
  ⟨op_storeK ho hx hz hr (by rw [hd]; exact op_assignK (K := fun a W => Q .normal a W) hy (by show Q .normal (a.put y.dst (a.eval v)) W'; rw [hv]; exact h))⟩
end
theorem KindsAt.later {W W' : World} {m : Nat} (h : KindsAt W m) (k : Later W W') : KindsAt W' m := by
  obtain ⟨φ, h1, h2, h3⟩ := h
  exact ⟨φ, h1.later k, fun i v hv => ⟨(h2 i v hv).1, (h2 i v hv).2.m k.m⟩, h3⟩
/-- A kind as a lookup tells it (none: nothing). -/
def kindV (k : Int) (A : Option Addr) : Value := .agg #[.string (kName k), if isKind k then .func (.func (kRight k)) #[] #[] else .nilFunc, .slice A (flds k).length (flds k).length]
theorem no_kind {k : Int} (h : isKind k = false) : kName k = ⟨#[]⟩ ∧ flds k = [] := by
  have hk : ∀ j : Int, 1 ≤ j → j ≤ 14 → k ≠ j := fun j h1 h2 e => by
    subst e
    unfold isKind at h
    simp at h
    omega
  have h1 := hk 1 (by decide) (by decide)
  have h2 := hk 2 (by decide) (by decide)
  have h3 := hk 3 (by decide) (by decide)
  have h4 := hk 4 (by decide) (by decide)
  have h5 := hk 5 (by decide) (by decide)
  have h6 := hk 6 (by decide) (by decide)
  have h7 := hk 7 (by decide) (by decide)
  have h8 := hk 8 (by decide) (by decide)
  have h9 := hk 9 (by decide) (by decide)
  have h10 := hk 10 (by decide) (by decide)
  have h11 := hk 11 (by decide) (by decide)
  have h12 := hk 12 (by decide) (by decide)
  have h13 := hk 13 (by decide) (by decide)
  have h14 := hk 14 (by decide) (by decide)
  constructor
  · unfold kName
    rw [if_neg h1, if_neg h2, if_neg h3, if_neg h4, if_neg h5, if_neg h6, if_neg h7, if_neg h8, if_neg h9, if_neg h10, if_neg h11, if_neg h12, if_neg h13, if_neg h14]
  · unfold flds
    rw [if_neg h1, if_neg h2, if_neg h3, if_neg h4, if_neg h6, if_neg h7, if_neg h8, if_neg h9, if_neg h10, if_neg h11, if_neg h13, if_neg h14]
theorem zeroKind (W : World) : (zeroValue 71).run Tryz.prog W = .ok (.agg #[.string ⟨#[]⟩, .nilFunc, .slice none 0 0]) W := by kernel_rfl
theorem kinds_look {W : World} {m : Nat} (h : KindsAt W m) (k : Int) : ∃ A, RdP W A (flds k) ∧ (∀ W', W'.heap[m]? = W.heap[m]? → (Instr.lookup 72 (.map (some m)) (.int .i64 k) true).run Tryz.prog W' = .ok (.tuple #[kindV k A, .bool (isKind k)]) W') ∧ ∀ W', W'.heap[m]? = W.heap[m]? → (Instr.lookup 72 (.map (some m)) (.int .i64 k) false).run Tryz.prog W' = .ok (kindV k A) W' := by
  obtain ⟨φ, hM, h1, h2⟩ := h
  rcases hM.find (P := Tryz.prog) Tryz.underlying72 Tryz.underlying22 k with ⟨v, hv, hr1, hr2⟩ | ⟨hno, hz⟩
  · obtain ⟨hk, A, rfl, hp⟩ := h1 k v hv
    refine ⟨A, hp, fun W' hW => ?_, fun W' hW => ?_⟩
    · rw [hr1 W' hW]; unfold kindV; rw [hk, if_pos rfl]
    · rw [hr2 W' hW]; unfold kindV; rw [hk, if_pos rfl]
  · have hk : isKind k = false := by
      cases e : isKind k with
      | false => rfl
      | true => obtain ⟨v, hv⟩ := h2 k e; exact absurd hv (hno v)
    obtain ⟨e1, e2⟩ := no_kind hk
    obtain ⟨hr1, hr2⟩ := hz _ zeroKind
    refine ⟨none, by rw [e2]; exact fun h => absurd rfl h, fun W' hW => ?_, fun W' hW => ?_⟩
    · rw [hr1 W' hW]; unfold kindV; rw [hk, if_neg (by simp), e1, e2]; rfl
    · rw [hr2 W' hW]; unfold kindV; rw [if_neg (by rw [hk]; simp), e1, e2]; rfl
def Pr.kinds : Pr := ⟨fun v W => ∃ m, v = .map (some m) ∧ KindsAt W m, fun _ _ _ ⟨m, e, h⟩ hL => ⟨m, e, h.later hL⟩⟩
def Pr.look (k : Int) : Pr := ⟨fun v W => ∃ A, v = .tuple #[kindV k A, .bool (isKind k)] ∧ RdP W A (flds k), fun _ _ _ ⟨A, e, h⟩ hL => ⟨A, e, h.m hL.m⟩⟩
def Pr.kindv (k : Int) : Pr := ⟨fun v W => ∃ A, v = kindV k A ∧ RdP W A (flds k), fun _ _ _ ⟨A, e, h⟩ hL => ⟨A, e, h.m hL.m⟩⟩
def Pr.newk (B : Nat) : Pr := ⟨fun v W => ∃ b, v = .pointer (some ⟨b, 0, none⟩) ∧ Row W b 71 #[.string ⟨#[]⟩, .nilFunc, .slice none 0 0] ∧ B ≤ b, fun _ _ _ ⟨b, e, h, hb⟩ hL => ⟨b, e, h.later hL, hb⟩⟩
theorem loadKindF {b o : Nat} {v : Value} {W : World} (hc : W.cell? ⟨b, o, none⟩ = some v) : (Instr.loadAt 22 (.pointer (some ⟨b, o, none⟩))).run Tryz.prog W = .ok v W := by
  go_simp
theorem fieldS0 {g : Nat} {W : World} : (Instr.fieldAt 29 (.pointer (some ⟨g, 0, none⟩)) 0).run Tryz.prog W = .ok (.pointer (some ⟨g, 0, none⟩)) W := by
  go_simp
theorem kindV_one (k : Int) (A : Option Addr) : ∃ cs, kindV k A = .agg cs ∧ cs.size = 3 ∧ cs.all (·.oneCell') = true ∧ cs[2]? = some (.slice A (flds k).length (flds k).length) ∧ cs[1]? = some (if isKind k then .func (.func (kRight k)) #[] #[] else .nilFunc) ∧ cs[0]? = some (.string (kName k)) := by
  refine ⟨_, rfl, rfl, ?_, rfl, rfl, rfl⟩
  cases isKind k <;> simp [Value.oneCell']
theorem storeKind {W : World} {b : Nat} {k : Int} {A : Option Addr} (hr : Row W b 71 #[.string ⟨#[]⟩, .nilFunc, .slice none 0 0]) : ∃ W' cs, (Instr.storeAt 71 (.pointer (some ⟨b, 0, none⟩)) (kindV k A)).run Tryz.prog W = .ok () W' ∧ kindV k A = .agg cs ∧ Row W' b 71 cs ∧ W.grownBy W' (some b) ∧ cs[2]? = some (.slice A (flds k).length (flds k).length) ∧ cs[1]? = some (if isKind k then .func (.func (kRight k)) #[] #[] else .nilFunc) := by
  obtain ⟨cs, e, hz, h1, h2, h3, _⟩ := kindV_one k A
  rw [e]
  refine ⟨_, cs, run_store_row hr cs (by rw [hz]; exact infoKind) (by rw [hz]; decide) h1, rfl, ?_, grown_setCells _ _ _, h2, h3⟩
  have hr2 := row_setCells cs.toList 0 _ _ hr
  rwa [setFrom_whole _ _ (by rw [Array.length_toList, hz]; rfl), Array.toArray_toList] at hr2
theorem newSaid (w : World) {s : Said} (hs : s.wf) : ∃ w', (Instr.storeAt 29 (.pointer (some ⟨w.heap.size, 0, none⟩)) (.agg (saidC s))).run Tryz.prog (w.alloc (.cells (saidC (Ms.blank 0)) 29)) = .ok () w' ∧ Row w' w.heap.size 29 (saidC s) ∧ Later w w' := by
  obtain ⟨w', h1, h2, h3⟩ := storeSaid (blank_wf 0) hs (Row.new w 29 (saidC (Ms.blank 0)))
  exact ⟨w', h1, h2, Below.grown ((Later.refl w).alloc _) h3 (by simp only [World.size_alloc]; omega) (fun j e => by cases e; exact Nat.le_refl _)⟩
theorem kt_same {w w' : World} {g : Nat} {cs : Array Value} (h : Row w g 29 cs) (hs : Same (fun k => k < w.heap.size ∧ k ≠ g) w w') : KT w w' := fun b T cs' ht hr => hr.same hs ⟨hr.lt, fun e => by
  subst e
  have := Row.type hr h
  subst this
  revert ht
  decide⟩
theorem zeroed_wf : ∀ (l : List Fld) {s : Said}, s.wf → (zeroed l s).wf
  | [], _, h => h
  | f :: l, s, h => zeroed_wf l (s := zero1 s f) (zero1_wf h f)
theorem zeroed_snoc (l : List Fld) (f : Fld) (s : Said) : zeroed (l ++ [f]) s = zero1 (zeroed l s) f := by simp [zeroed]
end Go.Proofs.YtcajhdmppfiaeaaGreat
