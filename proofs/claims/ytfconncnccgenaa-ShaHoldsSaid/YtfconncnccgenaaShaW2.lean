/- Walks: the constants; functions that rotate, made; the places of a state that turns. -/
import Derived.Test.YtfconncnccgenaaShaW1
import Derived.Laws.EntriesVeiled
set_option linter.unusedVariables false
set_option linter.unusedSimpArgs false
namespace Go.Proofs.Ytfconncnccgenaa
open Go.RowKit
section
variable {P : Program} {ops : Array Oper} {rest : List Oper} {o : Oper} {a : Act} {w : World} {Q : Exit → Act → World → Prop}
theorem wpList_buildC (hgd : o.guard = none) (T : TypeId) (parts : Array (Nat × Operand)) (ho : o.op = .build T parts) (vs : Array (Nat × Value)) (hp : (parts.map fun (i, x) => (i, a.eval x)) = vs)
    {v : Value} {w' : World} (hr : (Instr.build T vs).run P w = .ok v w')
    (h : wpList P ops Q rest (a.put o.dst v) w') : wpList P ops Q (o :: rest) a w :=
  wpList_plain hgd fun _ hK => by
    unfold Oper.wp execOp
    simp only [ho, Sem.run_bind, Sem.run_pure, Result.andThen_ok, hp, hr]
    exact hK _ _ h
end
def kCells : Array Value := (Sha.ks.map wordV).toArray
def z64 : Array Value := Array.replicate 64 (.int .u32 0)
theorem info64 : (Try.prog.info? 72).map (·.size) = some 64 := by kernel_rfl
theorem alloc64 (w : World) : (Instr.alloc 72 true (.tuple #[])).run Try.prog w = .ok (.pointer (some ⟨w.heap.size, 0, none⟩)) (w.alloc (.cells z64 72)) := by kernel_rfl
def kParts : Array (Nat × Value) := ((List.range 64).map fun i => (i, wordV (Sha.kc i))).toArray
theorem buildK (w : World) : (Instr.build 72 kParts).run Try.prog w = .ok (.agg kCells) w := by kernel_rfl
theorem kCells_size : kCells.size = 64 := by simp [kCells, Sha.ks]
theorem kCells_one : kCells.all (·.oneCell') = true := by kernel_rfl
theorem kCells_get (t : Nat) (h : t < 64) : kCells[t]? = some (.int .u32 ((Sha.kc t).toNat : Int)) := by
  unfold kCells Sha.kc
  have : t < Sha.ks.length := h
  simp [this]
theorem storeK (w : World) : (Instr.storeAt 72 (.pointer (some ⟨w.heap.size, 0, none⟩)) (.agg kCells)).run Try.prog (w.alloc (.cells z64 72)) = .ok () (w.alloc (.cells kCells 72)) :=
  run_storeAt_new w 72 z64 kCells (by rw [kCells_size]; exact info64) (by rw [kCells_size]; simp [z64]) kCells_one
set_option maxRecDepth 100000 in
theorem constants_any (w : World) : Calls Try.prog 50 #[] w fun e w' => e = .returned (.agg kCells) ∧ Below w.heap.size w w' := by
  go_enter Try.func50, Try.ntmps50
  go_wp2_with (first
    | (with_reducible refine wpList_alloc rfl 72 rfl (alloc64 _) ?_)
    | (refine wpList_buildC rfl 72 _ rfl kParts (by kernel_rfl) (buildK _) ?_)
    | (refine wpList_store rfl 72 (.tmp 0) (.tmp 1) rfl (.pointer (some ⟨w.heap.size, 0, none⟩)) (.agg kCells) rfl rfl (storeK _) ?_))
  refine bodyPost_ret (results_cell_row rfl _ _ w.heap.size 72 kCells (0, 0) _ rfl (Row.new w 72 kCells) Try.underlying72 rfl (by rw [kCells_size]; exact info64)) rfl ⟨rfl, below_new w _⟩
theorem rotations_any (s : Nat) (n bl : Nat) (w : World) :
    Calls Try.prog 51 #[.int .i64 (s : Int), .slice (some ⟨bl, 0, none⟩) n n] w fun e w' => e = .returned (.func (.func 59) #[] #[.pointer (some ⟨w.heap.size, 0, none⟩), .pointer (some ⟨w.heap.size + 1, 0, none⟩)]) ∧ (w.alloc (.cells #[intV s] 3)).alloc (.cells #[.slice (some ⟨bl, 0, none⟩) n n] 100) = w' := by
  go_enter Try.func51, Try.ntmps51
  go_wp2
  go_ret
  exact ⟨rfl, rfl⟩
theorem at_any (i : Int) (t j bx bt : Nat) (w : World) (h1 : 0 ≤ i) (h2 : i ≤ 7) (ht : t < 64) (hj : (i + 64 - (t : Int)) % 8 = (j : Int)) (hc : w.cell? ⟨bt, 0, none⟩ = some (.int .i64 (t : Int))) :
    Calls Try.prog 53 #[.int .i64 i, .pointer (some ⟨bx, 0, none⟩), .pointer (some ⟨bt, 0, none⟩)] w fun e w' => e = .returned (.pointer (some ⟨bx, j, none⟩)) ∧ w = w' := by
  have hj8 : j < 8 := by omega
  go_enter Try.func53, Try.ntmps53
  go_wp2
  go_ret
  exact ⟨rfl, rfl⟩
end Go.Proofs.Ytfconncnccgenaa
