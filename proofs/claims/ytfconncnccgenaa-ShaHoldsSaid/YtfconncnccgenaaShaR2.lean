/- Walks: a sum under way: a new one, bytes that come. -/
import Derived.Test.YtfconncnccgenaaShaR1
set_option linter.unusedVariables false
set_option linter.unusedSimpArgs false
namespace Go.Proofs.Ytfconncnccgenaa
open Go.RowKit
section
variable {P : Program} {Q : Exit → Act → World → Prop}
theorem last_callF {o : Oper} {a : Act} {W : World} {f : FuncId} {xs : Array Operand} {ts : Array TypeId} {vs : Array Value} (ho : o.op = .call { callee := .value (.func f), args := xs, argTypes := ts }) (hv : xs.map a.eval = vs) (eg : ∀ args w, (callFunc f args).run P w = .ok (.enter f args) w)
    (h : Calls P f vs W fun e W' => ∃ v, e = .returned v ∧ Q .normal (a.put o.dst v) W') : LastOk P o a W Q := ⟨by
  have hr : ((do let d ← resolve a.eval { callee := .value (.func f), args := xs, argTypes := ts } o.type; invoke d.target d.args) : Sem Next).run P W = .ok (.enter f vs) W := by
    simp [resolve, invoke, go_sem, hv, eg, Act.eval]
  unfold Oper.wp execOp
  simp only [ho]
  rw [hr]
  exact h.mono fun e W' ⟨v, he, hq⟩ => by subst he; exact hq⟩
end
def firstParts : Array (Nat × Value) := #[(0, wordV Sha.first.a), (1, wordV Sha.first.b), (2, wordV Sha.first.c), (3, wordV Sha.first.d), (4, wordV Sha.first.e), (5, wordV Sha.first.f), (6, wordV Sha.first.g), (7, wordV Sha.first.h)]
theorem buildFirst (w : World) : (Instr.build 41 firstParts).run Try.prog w = .ok (.agg (stC Sha.first 0)) w := by kernel_rfl
theorem first_any (w : World) : Calls Try.prog 27 #[] w fun e w' => e = .returned (.agg (stC Sha.first 0)) ∧ w.alloc (.cells (stC Sha.first 0) 41) = w' := by
  go_enter Try.func27, Try.ntmps27
  go_wp2_with (first
    | (with_reducible refine wpList_alloc rfl 41 rfl (alloc8 _) ?_)
    | (refine wpList_buildC rfl 41 _ rfl firstParts (by kernel_rfl) (buildFirst _) ?_)
    | (refine wpList_store rfl 41 (.tmp 0) (.tmp 1) rfl (.pointer (some ⟨w.heap.size, 0, none⟩)) (.agg (stC Sha.first 0)) rfl rfl (storeS Sha.first _) ?_))
  refine bodyPost_ret (results_cell_row rfl _ _ w.heap.size 41 (stC Sha.first 0) (0, 0) _ rfl (Row.new w 41 (stC Sha.first 0)) Try.underlying41 rfl (by rw [stC_size]; exact info8)) rfl ⟨rfl, rfl⟩
def run0 : Array Value := runC Sha.first (Sha.zeros 64) 0
theorem buildPress (w : World) : (Instr.build 70 #[(0, .agg (stC Sha.first 0))]).run Try.prog w = .ok (.agg (stC Sha.first 0)) w := by kernel_rfl
theorem buildRun (w : World) : (Instr.build 77 #[(0, .agg (stC Sha.first 0)), (3, .bool true)]).run Try.prog w = .ok (.agg run0) w := by kernel_rfl
theorem boxRun (w : World) : (Instr.box 77 (.agg run0)).run Try.prog w = .ok (.pointer (some ⟨w.heap.size, 0, none⟩)) (w.alloc (.cells run0 77)) := by kernel_rfl
theorem wpList_box {P : Program} {ops : Array Oper} {rest : List Oper} {o : Oper} {a : Act} {w : World} {Q : Exit → Act → World → Prop} (hgd : o.guard = none) (T : TypeId) (x : Operand) (ho : o.op = .box T x) (vx : Value) (hx : a.eval x = vx) {v : Value} {w' : World} (hr : (Instr.box T vx).run P w = .ok v w')
    (h : wpList P ops Q rest (a.put o.dst v) w') : wpList P ops Q (o :: rest) a w :=
  wpList_plain hgd fun _ hK => by
    unfold Oper.wp execOp
    simp only [ho, Sem.run_bind, Sem.run_pure, Result.andThen_ok, hx, hr]
    exact hK _ _ h
set_option maxRecDepth 100000 in
theorem new_any (w : World) : Calls Try.prog 24 #[] w fun e w' => ∃ g, e = .returned (.pointer (some ⟨g, 0, none⟩)) ∧ IsRun w' g [] ∧ w.heap.size ≤ g ∧ Below w.heap.size w w' := by
  go_enter Try.func24, Try.ntmps24
  go_wp2_with (first
    | (go_at_call 27; refine (first_any _).mono ?_; rintro e w1 ⟨rfl, rfl⟩)
    | (refine wpList_build1 rfl 70 0 (.tmp 1) rfl (.agg (stC Sha.first 0)) rfl (buildPress _) ?_)
    | (refine wpList_buildC rfl 77 _ rfl #[(0, .agg (stC Sha.first 0)), (3, .bool true)] (by rfl) (buildRun _) ?_)
    | (refine wpList_box rfl 77 (.tmp 3) rfl (.agg run0) rfl (boxRun _) ?_))
  go_ret
  refine ⟨_, rfl, ⟨Sha.zeros 64, by simp [Sha.zeros], by simp [Sha.left], ?_⟩, ?_, ?_⟩
  · have e : runC (Sha.state []) (Sha.zeros 64) ([] : List UInt8).length = run0 := rfl
    rw [e]
    exact Row.newAt (by simp only [World.size_alloc])
  · omega
  · exact ((below_new w _).alloc (by simp only [World.size_alloc]; omega) _)
theorem none_no (g : Nat) (l : List UInt8) (w : World) (h : IsRun w g l) : Calls Try.prog 44 #[.pointer (some ⟨g, 0, none⟩)] w fun e w' => e = .returned (.bool false) ∧ w = w' := by
  obtain ⟨p, hp, _, hr⟩ := h
  have hc : w.cell? ⟨g, 73, none⟩ = some (.bool true) := (hr.cell 73).trans (runC_get73 _ _ _ hp)
  clear hr
  go_enter Try.func44, Try.ntmps44
  go_wp2
  go_ret
  exact ⟨rfl, rfl⟩
end Go.Proofs.Ytfconncnccgenaa
