/- The law for drawn regions at a literal list of operations: predicates in a list; one goal an operation. -/
import Derived.Test.YtfconncnccgenaaOrder
set_option linter.unusedVariables false
set_option linter.unusedSimpArgs false
namespace Go.Proofs.Ytfconncnccgenaa
open Go.RowKit
/-- What may be said of a value: it stays true in later worlds. -/
structure Pr where
  R : Value → World → Prop
  st : ∀ v W W', R v W → Later W W' → R v W'
def Pr.eq (c : Value) : Pr := ⟨fun v _ => v = c, fun _ _ _ h _ => h⟩
def Pr.any : Pr := ⟨fun _ _ => True, fun _ _ _ h _ => h⟩
/-- A slice of slices of bytes. -/
def Pr.rds (n : Nat) (ls : List (List UInt8)) : Pr := ⟨fun v W => ∃ A, v = .slice A n n ∧ Rds W A ls, fun _ _ _ ⟨A, e, h⟩ hL => ⟨A, e, h.later hL⟩⟩
/-- A slice of bytes. -/
def Pr.rd (n : Nat) (l : List UInt8) : Pr := ⟨fun v W => ∃ A c, v = .slice A n c ∧ n ≤ c ∧ Rd W A l, fun _ _ _ ⟨A, c, e, hc, h⟩ hL => ⟨A, c, e, hc, h.later hL⟩⟩
def Vof (Vs : List Pr) (j : Nat) (v : Value) (W : World) : Prop := match Vs[j]? with
  | some p => p.R v W
  | none => True
theorem Vof.st (Vs : List Pr) : ∀ j v W W', Vof Vs j v W → Later W W' → Vof Vs j v W' := fun j v W W' h hL => by
  unfold Vof at *
  cases hj : Vs[j]? with
  | none => trivial
  | some p => rw [hj] at h; exact p.st v W W' h hL
def AllFrom (Φ : Nat → Oper → Prop) : Nat → List Oper → Prop
  | _, [] => True
  | k, o :: os => Φ k o ∧ AllFrom Φ (k + 1) os
theorem allFrom_get {Φ : Nat → Oper → Prop} : ∀ (l : List Oper) (k : Nat), AllFrom Φ k l → ∀ i o, l[i]? = some o → Φ (k + i) o
  | [], _, _, i, o, h => by simp at h
  | x :: xs, k, hA, 0, o, h => by
    rw [List.getElem?_cons_zero] at h
    injection h with h
    subst h
    exact hA.1
  | x :: xs, k, hA, i + 1, o, h => by
    rw [List.getElem?_cons_succ] at h
    have := allFrom_get xs (k + 1) hA.2 i o h
    rwa [show k + 1 + i = k + (i + 1) from by omega] at this
section
variable {P : Program} {Q : Exit → Act → World → Prop}
theorem wp_region_list {id : Nat} {l : List Oper} {a0 : Act} {w : World} (Vs : List Pr) (hm : P.follows .mixedOrders = true) (hd : dstsB l.toArray = true) (hb : backB l.toArray = true) (hin : dstIn l.toArray a0.tmps.size = true)
    (step : AllFrom (fun i o => ∀ a W, Later w W → Env l.toArray a0 (Vof Vs) i a W → StepOk P l.toArray Q o a W (Vof Vs i)) 0 l)
    (done : ∀ xs W, Later w W → (∀ j, j < l.length → Vof Vs j (xs j) W) → Q .normal (putL l 0 xs a0) W) : (Code.region id l.toArray true).wp P Q a0 w :=
  wp_region_values hm hd hb hin (Vof Vs) (Vof.st Vs) (fun i o a W ho hL he => by
    have h := allFrom_get l 0 step i o (by simpa using ho)
    rw [Nat.zero_add] at h
    exact h a W hL he) (fun xs W hL hx => done xs W hL (fun j hj => hx j (by simpa using hj)))
variable {o : Oper} {a : Act} {W : World} {R : Value → World → Prop}
theorem op_callF {f : FuncId} {xs : Array Operand} {ts : Array TypeId} {vs : Array Value} (ho : o.op = .call { callee := .value (.func f), args := xs, argTypes := ts }) (hv : xs.map a.eval = vs) (eg : ∀ args w, (callFunc f args).run P w = .ok (.enter f args) w)
    (h : Calls P f vs W fun e W' => ∃ v, e = .returned v ∧ Later W W' ∧ R v W') : o.wp P a W (fun a' W' => ∃ v, a' = a.put o.dst v ∧ Later W W' ∧ R v W') Q := by
  refine op_call ho ?_ h
  simp [resolve, invoke, go_sem, hv, eg, Act.eval]
theorem op_len {x : Operand} {t U : TypeId} (ht : P.underlying t = some (.slice U)) {A : Option Addr} {n c : Nat} (ho : o.op = .call { callee := .builtin .len, args := #[x], argTypes := #[t] }) (hx : a.eval x = .slice A n c) (h : R (.int .i64 (n : Int)) W) :
    o.wp P a W (fun a' W' => ∃ v, a' = a.put o.dst v ∧ Later W W' ∧ R v W') Q := by
  refine op_value (v := .int .i64 (n : Int)) (W' := W) ?_ (Later.refl _) h
  unfold execOp
  simp only [ho, resolve, invoke, builtin, List.map_toArray, List.map_cons, List.map_nil, hx, Sem.run_bind, Sem.run_pure, Result.andThen_ok]
  simp [Builtin.len_, run_underlying ht, goInt]
end
end Go.Proofs.Ytfconncnccgenaa
