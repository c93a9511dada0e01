/- Walks, secrets: none, has, fits. -/
import Derived.Test.YthabgfghogdkcaaDoorSc4
set_option linter.unusedVariables false
set_option linter.unusedSimpArgs false
namespace Go.Proofs.YthabgfghogdkcaaDoor
open Go.RowKit
section
variable {P : Program} {Q : Exit → Act → World → Prop}
theorem last_callP {o : Oper} {a : Act} {W : World} {f : FuncId} {xs : Array Operand} {ts : Array TypeId} {vs : Array Value} (ho : o.op = .call { callee := .value (.func f), args := xs, argTypes := ts }) (hv : xs.map a.eval = vs) (eg : ∀ args w, (callFunc f args).run P w = .ok (.enter f args) w)
    (h : Calls P f vs W fun e W' => (∃ v, e = .returned v ∧ Q .normal (a.put o.dst v) W') ∨ (∃ ch, e = .panicked ch ∧ Q (.panic ch) a W')) : LastOk P o a W Q := ⟨by
  have hr : ((do let d ← resolve a.eval { callee := .value (.func f), args := xs, argTypes := ts } o.type; invoke d.target d.args) : Sem Next).run P W = .ok (.enter f vs) W := by
    simp [resolve, invoke, go_sem, hv, eg, Act.eval]
  unfold Oper.wp execOp
  simp only [ho]
  rw [hr]
  exact h.mono fun e W' hh => by
    rcases hh with ⟨v, he, hq⟩ | ⟨ch, he, hq⟩
    · subst he; exact hq
    · subst he; exact hq⟩
variable {ops : Array Oper} {rest : List Oper} {o : Oper} {a : Act} {w : World}
theorem wpList_sliceHi (hgd : o.guard = none) (T : TypeId) (x y : Operand) (ho : o.op = .slice T x none (some y) none) (vx vy : Value) (hx : a.eval x = vx) (hy : a.eval y = vy) {v : Value} {w' : World} (hr : (Instr.sliceAt T vx none (some vy) none).run P w = .ok v w')
    (h : wpList P ops Q rest (a.put o.dst v) w') : wpList P ops Q (o :: rest) a w :=
  wpList_plain hgd fun _ hK => by
    unfold Oper.wp execOp
    simp only [ho, Sem.run_bind, Sem.run_pure, Result.andThen_ok, Option.map_none, Option.map_some, hx, hy, hr]
    exact hK _ _ h
end
/-- A keep in memory. -/
structure IsKeep (w : World) (g : Nat) (n : Int) (ix : Nat → Nat) (sc : Nat → List UInt8) : Prop where
  row : Row w g 60 (kC n ix sc true)
  len : ∀ p, (sc p).length = 32
  lim : ∀ p, ix p < 2147483648
theorem IsKeep.le {w : World} {g : Nat} {n : Int} {ix : Nat → Nat} {sc : Nat → List UInt8} (h : IsKeep w g n ix sc) (p : Nat) : (sc p).length ≤ 32 := Nat.le_of_eq (h.len p)
theorem IsKeep.of_row {w w' : World} {g : Nat} {n : Int} {ix : Nat → Nat} {sc : Nat → List UInt8} (h : IsKeep w g n ix sc) (hr : Row w' g 60 (kC n ix sc true)) : IsKeep w' g n ix sc := ⟨hr, h.len, h.lim⟩
theorem knone_no (g : Nat) (n : Int) (ix : Nat → Nat) (sc : Nat → List UInt8) (w : World) (hr : Row w g 60 (kC n ix sc true)) : Calls Tryd.prog 27 #[.pointer (some ⟨g, 0, none⟩)] w fun e w' => w' = w ∧ e = .returned (.bool false) := by
  have hc : w.cell? ⟨g, 1057, none⟩ = some (.bool true) := (hr.cell 1057).trans (kC_made _ _ _ _)
  go_enter Tryd.func27, Tryd.ntmps27
  go_wp2
  go_ret
  exact ⟨rfl, rfl⟩
def Sec.hasB (n p : Nat) : Bool := decide (0 < n / 2 ^ p)
theorem Sec.hasB_eq (n p : Nat) : decide ((0 : Int) < (n : Int) / 2 ^ p) = Sec.hasB n p := by
  have e : (n : Int) / 2 ^ p = ((n / 2 ^ p : Nat) : Int) := by simp
  rw [e]
  unfold Sec.hasB
  simp only [Int.natCast_pos]
theorem has_any (g : Nat) (n p : Nat) (ix : Nat → Nat) (sc : Nat → List UInt8) (made : Bool) (w : World) (hp : p ≤ 32) (hr : Row w g 60 (kC n ix sc made)) : Calls Tryd.prog 41 #[.pointer (some ⟨g, 0, none⟩), .int .i64 (p : Int)] w fun e w' => w' = w ∧ e = .returned (.bool (Sec.hasB n p)) := by
  have hc : w.cell? ⟨g, 0, none⟩ = some (.int .i64 n) := (hr.cell 0).trans (kC_n _ _ _ _)
  go_enter Tryd.func41, Tryd.ntmps41
  go_wp2_with (first
    | (refine wpList_binop rfl .shr 2 3 (.tmp 9) (.tmp 10) rfl (.int .i64 (n : Int)) (.int .i64 (p : Int)) rfl rfl (eqg_any rfl) (shr64 (by omega)) ?_)
    | fail)
  go_ret
  exact ⟨rfl, by rw [← Sec.hasB_eq]; rfl⟩
/- fits -/
theorem Calls.post {P : Program} {f : FuncId} {args : Array Value} {w : World} {R : Ending → World → Prop} (h : ∀ Φ : Ending → World → Prop, Hid (∀ e w', R e w' → Φ e w') → Calls P f args w Φ) : Calls P f args w R := h R (Lib.hid fun _ _ h => h)
theorem leq64 {x y : Int} (h : x ≤ y) {W : World} : (binOp .leq 2 (.int .i64 x) (.int .i64 y)).run Tryd.prog W = .ok (.bool true) W := by
  have h' : (binOp .leq 2 (.int .i64 x) (.int .i64 y)).run Tryd.prog W = .ok (.bool (decide (x ≤ y))) W := by kernel_rfl
  rw [h', decide_eq_true h]
theorem leq64_no {x y : Int} (h : ¬ x ≤ y) {W : World} : (binOp .leq 2 (.int .i64 x) (.int .i64 y)).run Tryd.prog W = .ok (.bool false) W := by
  have h' : (binOp .leq 2 (.int .i64 x) (.int .i64 y)).run Tryd.prog W = .ok (.bool (decide (x ≤ y))) W := by kernel_rfl
  rw [h', decide_eq_false h]
def Sec.fitOne (ix : Nat → Nat) (sc : Nat → List UInt8) (p q : Nat) : Bool := decide (ix q ≤ ix p) || Sec.down (sc p) p (ix q) == sc q
def Sec.fitB (ix : Nat → Nat) (sc : Nat → List UInt8) (p k : Nat) : Bool := (List.range k).all (Sec.fitOne ix sc p)
theorem Sec.fitB_succ (ix : Nat → Nat) (sc : Nat → List UInt8) (p k : Nat) : Sec.fitB ix sc p (k + 1) = (Sec.fitB ix sc p k && Sec.fitOne ix sc p k) := by
  unfold Sec.fitB
  rw [List.range_succ, List.all_append]
  simp
theorem Sec.fitB_no {ix : Nat → Nat} {sc : Nat → List UInt8} {p q k : Nat} (hq : q < k) (h : Sec.fitOne ix sc p q = false) : Sec.fitB ix sc p k = false := by
  unfold Sec.fitB
  rw [List.all_eq_false]
  exact ⟨q, List.mem_range.2 hq, by rw [h]; decide⟩
theorem fieldKept0 {g o : Nat} {W : World} : (Instr.fieldAt 57 (.pointer (some ⟨g, o, none⟩)) 0).run Tryd.prog W = .ok (.pointer (some ⟨g, o, none⟩)) W := by
  go_simp
theorem fieldKept1 {g o : Nat} {W : World} : (Instr.fieldAt 57 (.pointer (some ⟨g, o, none⟩)) 1).run Tryd.prog W = .ok (.pointer (some ⟨g, o + 1, none⟩)) W := by
  go_simp
theorem idxKeptS {g n c k : Nat} (h : k < n) (hn : n ≤ 32) {W : World} : (Instr.indexAt 66 (.slice (some ⟨g, 1, none⟩) n c) (.int .i64 (k : Int))).run Tryd.prog W = .ok (.pointer (some ⟨g, 1 + 33 * k, none⟩)) W := by
  have h1 : (k : Int) < (n : Int) := by omega
  have h2 : (0 : Int) ≤ (k : Int) := by omega
  have e : k * 33 = 33 * k := by omega
  go_simp
theorem sliceKept {g p : Nat} (h : p ≤ 32) {W : World} : (Instr.sliceAt 58 (.pointer (some ⟨g, 1, none⟩)) none (some (.int .i64 (p : Int))) none).run Tryd.prog W = .ok (.slice (some ⟨g, 1, none⟩) p 32) W := by
  have h1 : (p : Int) ≤ 32 := by omega
  have h2 : (0 : Int) ≤ (p : Int) := by omega
  go_simp
theorem ptC_ix (i : Nat) (s : List UInt8) : (ptC i s)[0]? = some (.int .i64 (i : Int)) := by
  unfold ptC
  rw [Array.getElem?_append_left (by simp)]; rfl
theorem loadPtHash {w : World} {q i : Nat} {s : List UInt8} (hs : s.length ≤ 32) (hr : Row w q 57 (ptC i s)) : (Instr.loadAt 23 (.pointer (some ⟨q, 1, none⟩))).run Tryd.prog w = .ok (.agg (hC s)) w := by
  refine run_load_part hr (fun j hj => ?_) Tryd.underlying23 rfl (by rw [hC_size _ hs]; exact infoH)
  unfold ptC
  rw [Array.getElem?_append_right (by simp)]
  simp
theorem putPt {w : World} {q : Nat} {i j : Nat} {s t : List UInt8} (hs : s.length ≤ 32) (ht : t.length ≤ 32) (hr : Row w q 57 (ptC i s)) : ∃ w', (Instr.storeAt 57 (.pointer (some ⟨q, 0, none⟩)) (.agg (ptC j t))).run Tryd.prog w = .ok () w' ∧ Row w' q 57 (ptC j t) ∧ w.grownBy w' (some q) :=
  run_put_row hr (by rw [ptC_size _ _ hs, ptC_size _ _ ht]) (by rw [ptC_size _ _ ht]; exact infoP) (ptC_one _ _)
end Go.Proofs.YthabgfghogdkcaaDoor
