/- Walks, msgs: the document's Right. -/
import Derived.Test.YtcajhdmppfiaeaaGreatGl5
set_option linter.unusedVariables false
set_option linter.unusedSimpArgs false
namespace Go.Proofs.YtcajhdmppfiaeaaGreat
open Go.RowKit Ms
section
variable {P : Program} {Q : Exit → Act → World → Prop} {o : Oper} {a : Act} {W : World} {R : Value → World → Prop}
theorem op_not {T : TypeId} {x : Operand} {b : Bool} (ho : o.op = .unOp .not T x) (hx : a.eval x = .bool b) (h : R (.bool (!b)) W) : o.wp P a W (fun a' W' => ∃ v, a' = a.put o.dst v ∧ Later W W' ∧ R v W') Q := by
  refine op_value (v := .bool (!b)) (W' := W) ?_ (Later.refl _) h
  unfold execOp
  simp only [ho, hx, Sem.run_bind, Sem.run_pure, Result.andThen_ok]
  cases b <;> go_simp
theorem wpList_fieldA {ops : Array Oper} {rest : List Oper} (hgd : o.guard = none) (T : TypeId) (i : Nat) (x : Operand) (ho : o.op = .fieldAddr T x i) (vx : Value) (hx : a.eval x = vx) {v : Value} {w' : World} (hr : (Instr.fieldAt T vx i).run P W = .ok v w')
    (h : wpList P ops Q rest (a.put o.dst v) w') : wpList P ops Q (o :: rest) a W :=
  wpList_on (by unfold Region.wanted; rw [hgd]) fun _ hK => by
    unfold Oper.wp execOp
    simp only [ho, Sem.run_bind, Sem.run_pure, Result.andThen_ok, hx, hr]
    exact hK _ _ h
end
def specialR (k : Int) (s : Said) : Bool :=
  if k = 1 then rtB s && (decide (0 ≤ s.reserve) && (decide (s.reserve ≤ s.cap / 10) && decide (s.amount ≤ s.cap - s.fee - s.reserve)))
  else if k = 3 then decide (s.index < 24) else if k = 6 then addB s else if k = 8 ∨ k = 14 then inB s.code 1 999 else true
theorem lssI (x y : Int) (w : World) : (binOp .lss 3 (.int .i64 x) (.int .i64 y)).run Tryz.prog w = .ok (.bool (decide (x < y))) w := by go_simp
theorem gtrI (x y : Int) (w : World) : (binOp .gtr 3 (.int .i64 x) (.int .i64 y)).run Tryz.prog w = .ok (.bool (decide (y < x))) w := by go_simp
set_option maxRecDepth 100000 in
set_option maxHeartbeats 2000000 in
theorem rright1 (s : Said) (hs : s.wf) (H1 : Hid (∀ W, (binOp .lss 3 (.int .i64 s.kind) (.int .i64 1)).run Tryz.prog W = .ok (.bool true) W)) (w : World) : Calls Tryz.prog 11 #[.agg (saidC s)] w fun e w' => e = .returned (.bool false) ∧ Later w w' := by
  have k1 := Row.new w 29 (saidC s)
  have hbx := boxSaid hs w
  have hb := below_new w (.cells (saidC s) 29)
  go_enter Tryz.func11, Tryz.ntmps11
  go_upto_region 1 with fail
  obtain ⟨g, hg⟩ : ∃ q, q = w.heap.size := ⟨_, rfl⟩
  rw [← hg] at k1 ⊢
  clear hbx hg
  generalize w.alloc (.cells (saidC s) 29) = w1 at *
  have c0 : w1.cell? ⟨g, 0, none⟩ = some (.int .i64 s.kind) := (k1.cell 0).trans (saidC_kind hs)
  go_upto_region 2 with fail
  clear c0
  refine (wpIn_wide (n := 0)).1 ?_
  refine wpIn_region_vals wide_wide [Pr.eq (.int .i64 s.kind), Pr.eq (.bool true), Pr.eq (.bool true), Pr.eq (undef), Pr.eq (undef), Pr.eq (.bool true), Pr.eq (.bool true), Pr.eq (undef), Pr.eq (undef), Pr.eq (undef), Pr.eq (undef), Pr.eq (.bool true), Pr.eq (.bool true), Pr.eq (undef), Pr.eq (undef), Pr.eq (undef), Pr.eq (undef), Pr.eq (.bool true), Pr.eq (.bool true), Pr.eq (undef), Pr.eq (undef), Pr.eq (undef), Pr.eq (undef), Pr.eq (.bool true), Pr.eq (.bool true), Pr.eq (undef), Pr.eq (undef), Pr.eq (undef), Pr.eq (undef), Pr.eq (.bool true), Pr.eq (.bool true), Pr.eq (undef), Pr.eq (undef), Pr.eq (undef), Pr.eq (undef), Pr.eq (.bool true), Pr.eq (.bool true), Pr.eq (undef), Pr.eq (undef), Pr.eq (undef), Pr.eq (undef), Pr.eq (.bool true)] (by kernel_rfl) (by kernel_rfl) (by kernel_rfl) (by kernel_rfl) (by kernel_rfl) ⟨?_, ?_, ?_, ?_, ?_, ?_, ?_, ?_, ?_, ?_, ?_, ?_, ?_, ?_, ?_, ?_, ?_, ?_, ?_, ?_, ?_, ?_, ?_, ?_, ?_, ?_, ?_, ?_, ?_, ?_, ?_, ?_, ?_, ?_, ?_, ?_, ?_, ?_, ?_, ?_, ?_, ?_, trivial⟩ ?_
  · exact fun ac W hL he => stepOk_want rfl (op_move rfl (he.keep (.tmp 3) (by kernel_rfl)))
  · exact fun ac W hL he => stepOk_want rfl (op_binOp rfl (he.get 0 6 (by kernel_rfl) rfl) rfl rfl (H1.out W) rfl)
  · exact fun ac W hL he => stepOk_want rfl (op_move rfl (he.get 1 7 (by kernel_rfl) rfl))
  · exact fun ac W hL he => stepOk_no rfl rfl (he.get 2 8 (by kernel_rfl) rfl) (by decide) rfl
  · exact fun ac W hL he => stepOk_no rfl rfl (he.get 2 8 (by kernel_rfl) rfl) (by decide) rfl
  · exact fun ac W hL he => stepOk_want rfl (op_pick (b := true) rfl (he.get 2 8 (by kernel_rfl) rfl) rfl)
  · exact fun ac W hL he => stepOk_want rfl (op_move rfl (he.get 5 11 (by kernel_rfl) rfl))
  · exact fun ac W hL he => stepOk_no rfl rfl (he.get 6 12 (by kernel_rfl) rfl) (by decide) rfl
  · exact fun ac W hL he => stepOk_no rfl rfl (he.get 6 12 (by kernel_rfl) rfl) (by decide) rfl
  · exact fun ac W hL he => stepOk_no rfl rfl (he.get 6 12 (by kernel_rfl) rfl) (by decide) rfl
  · exact fun ac W hL he => stepOk_no rfl rfl (he.get 6 12 (by kernel_rfl) rfl) (by decide) rfl
  · exact fun ac W hL he => stepOk_want rfl (op_pick (b := true) rfl (he.get 6 12 (by kernel_rfl) rfl) rfl)
  · exact fun ac W hL he => stepOk_want rfl (op_move rfl (he.get 11 17 (by kernel_rfl) rfl))
  · exact fun ac W hL he => stepOk_no rfl rfl (he.get 12 18 (by kernel_rfl) rfl) (by decide) rfl
  · exact fun ac W hL he => stepOk_no rfl rfl (he.get 12 18 (by kernel_rfl) rfl) (by decide) rfl
  · exact fun ac W hL he => stepOk_no rfl rfl (he.get 12 18 (by kernel_rfl) rfl) (by decide) rfl
  · exact fun ac W hL he => stepOk_no rfl rfl (he.get 12 18 (by kernel_rfl) rfl) (by decide) rfl
  · exact fun ac W hL he => stepOk_want rfl (op_pick (b := true) rfl (he.get 12 18 (by kernel_rfl) rfl) rfl)
  · exact fun ac W hL he => stepOk_want rfl (op_move rfl (he.get 17 23 (by kernel_rfl) rfl))
  · exact fun ac W hL he => stepOk_no rfl rfl (he.get 18 24 (by kernel_rfl) rfl) (by decide) rfl
  · exact fun ac W hL he => stepOk_no rfl rfl (he.get 18 24 (by kernel_rfl) rfl) (by decide) rfl
  · exact fun ac W hL he => stepOk_no rfl rfl (he.get 18 24 (by kernel_rfl) rfl) (by decide) rfl
  · exact fun ac W hL he => stepOk_no rfl rfl (he.get 18 24 (by kernel_rfl) rfl) (by decide) rfl
  · exact fun ac W hL he => stepOk_want rfl (op_pick (b := true) rfl (he.get 18 24 (by kernel_rfl) rfl) rfl)
  · exact fun ac W hL he => stepOk_want rfl (op_move rfl (he.get 23 29 (by kernel_rfl) rfl))
  · exact fun ac W hL he => stepOk_no rfl rfl (he.get 24 30 (by kernel_rfl) rfl) (by decide) rfl
  · exact fun ac W hL he => stepOk_no rfl rfl (he.get 24 30 (by kernel_rfl) rfl) (by decide) rfl
  · exact fun ac W hL he => stepOk_no rfl rfl (he.get 24 30 (by kernel_rfl) rfl) (by decide) rfl
  · exact fun ac W hL he => stepOk_no rfl rfl (he.get 24 30 (by kernel_rfl) rfl) (by decide) rfl
  · exact fun ac W hL he => stepOk_want rfl (op_pick (b := true) rfl (he.get 24 30 (by kernel_rfl) rfl) rfl)
  · exact fun ac W hL he => stepOk_want rfl (op_move rfl (he.get 29 35 (by kernel_rfl) rfl))
  · exact fun ac W hL he => stepOk_no rfl rfl (he.get 30 36 (by kernel_rfl) rfl) (by decide) rfl
  · exact fun ac W hL he => stepOk_no rfl rfl (he.get 30 36 (by kernel_rfl) rfl) (by decide) rfl
  · exact fun ac W hL he => stepOk_no rfl rfl (he.get 30 36 (by kernel_rfl) rfl) (by decide) rfl
  · exact fun ac W hL he => stepOk_no rfl rfl (he.get 30 36 (by kernel_rfl) rfl) (by decide) rfl
  · exact fun ac W hL he => stepOk_want rfl (op_pick (b := true) rfl (he.get 30 36 (by kernel_rfl) rfl) rfl)
  · exact fun ac W hL he => stepOk_want rfl (op_move rfl (he.get 35 41 (by kernel_rfl) rfl))
  · exact fun ac W hL he => stepOk_no rfl rfl (he.get 36 42 (by kernel_rfl) rfl) (by decide) rfl
  · exact fun ac W hL he => stepOk_no rfl rfl (he.get 36 42 (by kernel_rfl) rfl) (by decide) rfl
  · exact fun ac W hL he => stepOk_no rfl rfl (he.get 36 42 (by kernel_rfl) rfl) (by decide) rfl
  · exact fun ac W hL he => stepOk_no rfl rfl (he.get 36 42 (by kernel_rfl) rfl) (by decide) rfl
  · exact fun ac W hL he => stepOk_want rfl (op_pick (b := true) rfl (he.get 36 42 (by kernel_rfl) rfl) rfl)
  intro xs W hL hxs
  have h41 : xs 41 = .bool true := hxs 41 (by decide)
  clear hxs
  simp only [putL, Nat.reduceAdd, Act.put, List.setIfInBounds_toArray, List.set_cons_succ, List.set_cons_zero, h41]
  clear h41
  go_wp2_with fail
  go_ret
  exact ⟨rfl, hb.trans (hL.below.mono hb.size)⟩
set_option maxRecDepth 100000 in
set_option maxHeartbeats 2000000 in
theorem rright2 (s : Said) (hs : s.wf) (H1 : Hid (∀ W, (binOp .lss 3 (.int .i64 s.kind) (.int .i64 1)).run Tryz.prog W = .ok (.bool false) W)) (H2 : Hid (∀ W, (binOp .gtr 3 (.int .i64 s.kind) (.int .i64 14)).run Tryz.prog W = .ok (.bool true) W)) (w : World) : Calls Tryz.prog 11 #[.agg (saidC s)] w fun e w' => e = .returned (.bool false) ∧ Later w w' := by
  have k1 := Row.new w 29 (saidC s)
  have hbx := boxSaid hs w
  have hb := below_new w (.cells (saidC s) 29)
  go_enter Tryz.func11, Tryz.ntmps11
  go_upto_region 1 with fail
  obtain ⟨g, hg⟩ : ∃ q, q = w.heap.size := ⟨_, rfl⟩
  rw [← hg] at k1 ⊢
  clear hbx hg
  generalize w.alloc (.cells (saidC s) 29) = w1 at *
  have c0 : w1.cell? ⟨g, 0, none⟩ = some (.int .i64 s.kind) := (k1.cell 0).trans (saidC_kind hs)
  go_upto_region 2 with fail
  clear c0
  refine (wpIn_wide (n := 0)).1 ?_
  refine wpIn_region_vals wide_wide [Pr.eq (.int .i64 s.kind), Pr.eq (.bool false), Pr.eq (.bool false), Pr.eq (.int .i64 s.kind), Pr.eq (.bool true), Pr.eq (.bool true), Pr.eq (.bool true), Pr.eq (undef), Pr.eq (undef), Pr.eq (undef), Pr.eq (undef), Pr.eq (.bool true), Pr.eq (.bool true), Pr.eq (undef), Pr.eq (undef), Pr.eq (undef), Pr.eq (undef), Pr.eq (.bool true), Pr.eq (.bool true), Pr.eq (undef), Pr.eq (undef), Pr.eq (undef), Pr.eq (undef), Pr.eq (.bool true), Pr.eq (.bool true), Pr.eq (undef), Pr.eq (undef), Pr.eq (undef), Pr.eq (undef), Pr.eq (.bool true), Pr.eq (.bool true), Pr.eq (undef), Pr.eq (undef), Pr.eq (undef), Pr.eq (undef), Pr.eq (.bool true), Pr.eq (.bool true), Pr.eq (undef), Pr.eq (undef), Pr.eq (undef), Pr.eq (undef), Pr.eq (.bool true)] (by kernel_rfl) (by kernel_rfl) (by kernel_rfl) (by kernel_rfl) (by kernel_rfl) ⟨?_, ?_, ?_, ?_, ?_, ?_, ?_, ?_, ?_, ?_, ?_, ?_, ?_, ?_, ?_, ?_, ?_, ?_, ?_, ?_, ?_, ?_, ?_, ?_, ?_, ?_, ?_, ?_, ?_, ?_, ?_, ?_, ?_, ?_, ?_, ?_, ?_, ?_, ?_, ?_, ?_, ?_, trivial⟩ ?_
  · exact fun ac W hL he => stepOk_want rfl (op_move rfl (he.keep (.tmp 3) (by kernel_rfl)))
  · exact fun ac W hL he => stepOk_want rfl (op_binOp rfl (he.get 0 6 (by kernel_rfl) rfl) rfl rfl (H1.out W) rfl)
  · exact fun ac W hL he => stepOk_want rfl (op_move rfl (he.get 1 7 (by kernel_rfl) rfl))
  · exact fun ac W hL he => stepOk_yes (j := 2) (t := 8) (b := false) rfl rfl (he.get 2 8 (by kernel_rfl) rfl) (op_move rfl (he.keep (.tmp 3) (by kernel_rfl)))
  · exact fun ac W hL he => stepOk_yes (j := 2) (t := 8) (b := false) rfl rfl (he.get 2 8 (by kernel_rfl) rfl) (op_binOp rfl (he.get 3 9 (by kernel_rfl) rfl) rfl rfl (H2.out W) rfl)
  · exact fun ac W hL he => stepOk_want rfl (op_pick (b := false) rfl (he.get 2 8 (by kernel_rfl) rfl) (he.get 4 10 (by kernel_rfl) rfl))
  · exact fun ac W hL he => stepOk_want rfl (op_move rfl (he.get 5 11 (by kernel_rfl) rfl))
  · exact fun ac W hL he => stepOk_no rfl rfl (he.get 6 12 (by kernel_rfl) rfl) (by decide) rfl
  · exact fun ac W hL he => stepOk_no rfl rfl (he.get 6 12 (by kernel_rfl) rfl) (by decide) rfl
  · exact fun ac W hL he => stepOk_no rfl rfl (he.get 6 12 (by kernel_rfl) rfl) (by decide) rfl
  · exact fun ac W hL he => stepOk_no rfl rfl (he.get 6 12 (by kernel_rfl) rfl) (by decide) rfl
  · exact fun ac W hL he => stepOk_want rfl (op_pick (b := true) rfl (he.get 6 12 (by kernel_rfl) rfl) rfl)
  · exact fun ac W hL he => stepOk_want rfl (op_move rfl (he.get 11 17 (by kernel_rfl) rfl))
  · exact fun ac W hL he => stepOk_no rfl rfl (he.get 12 18 (by kernel_rfl) rfl) (by decide) rfl
  · exact fun ac W hL he => stepOk_no rfl rfl (he.get 12 18 (by kernel_rfl) rfl) (by decide) rfl
  · exact fun ac W hL he => stepOk_no rfl rfl (he.get 12 18 (by kernel_rfl) rfl) (by decide) rfl
  · exact fun ac W hL he => stepOk_no rfl rfl (he.get 12 18 (by kernel_rfl) rfl) (by decide) rfl
  · exact fun ac W hL he => stepOk_want rfl (op_pick (b := true) rfl (he.get 12 18 (by kernel_rfl) rfl) rfl)
  · exact fun ac W hL he => stepOk_want rfl (op_move rfl (he.get 17 23 (by kernel_rfl) rfl))
  · exact fun ac W hL he => stepOk_no rfl rfl (he.get 18 24 (by kernel_rfl) rfl) (by decide) rfl
  · exact fun ac W hL he => stepOk_no rfl rfl (he.get 18 24 (by kernel_rfl) rfl) (by decide) rfl
  · exact fun ac W hL he => stepOk_no rfl rfl (he.get 18 24 (by kernel_rfl) rfl) (by decide) rfl
  · exact fun ac W hL he => stepOk_no rfl rfl (he.get 18 24 (by kernel_rfl) rfl) (by decide) rfl
  · exact fun ac W hL he => stepOk_want rfl (op_pick (b := true) rfl (he.get 18 24 (by kernel_rfl) rfl) rfl)
  · exact fun ac W hL he => stepOk_want rfl (op_move rfl (he.get 23 29 (by kernel_rfl) rfl))
  · exact fun ac W hL he => stepOk_no rfl rfl (he.get 24 30 (by kernel_rfl) rfl) (by decide) rfl
  · exact fun ac W hL he => stepOk_no rfl rfl (he.get 24 30 (by kernel_rfl) rfl) (by decide) rfl
  · exact fun ac W hL he => stepOk_no rfl rfl (he.get 24 30 (by kernel_rfl) rfl) (by decide) rfl
  · exact fun ac W hL he => stepOk_no rfl rfl (he.get 24 30 (by kernel_rfl) rfl) (by decide) rfl
  · exact fun ac W hL he => stepOk_want rfl (op_pick (b := true) rfl (he.get 24 30 (by kernel_rfl) rfl) rfl)
  · exact fun ac W hL he => stepOk_want rfl (op_move rfl (he.get 29 35 (by kernel_rfl) rfl))
  · exact fun ac W hL he => stepOk_no rfl rfl (he.get 30 36 (by kernel_rfl) rfl) (by decide) rfl
  · exact fun ac W hL he => stepOk_no rfl rfl (he.get 30 36 (by kernel_rfl) rfl) (by decide) rfl
  · exact fun ac W hL he => stepOk_no rfl rfl (he.get 30 36 (by kernel_rfl) rfl) (by decide) rfl
  · exact fun ac W hL he => stepOk_no rfl rfl (he.get 30 36 (by kernel_rfl) rfl) (by decide) rfl
  · exact fun ac W hL he => stepOk_want rfl (op_pick (b := true) rfl (he.get 30 36 (by kernel_rfl) rfl) rfl)
  · exact fun ac W hL he => stepOk_want rfl (op_move rfl (he.get 35 41 (by kernel_rfl) rfl))
  · exact fun ac W hL he => stepOk_no rfl rfl (he.get 36 42 (by kernel_rfl) rfl) (by decide) rfl
  · exact fun ac W hL he => stepOk_no rfl rfl (he.get 36 42 (by kernel_rfl) rfl) (by decide) rfl
  · exact fun ac W hL he => stepOk_no rfl rfl (he.get 36 42 (by kernel_rfl) rfl) (by decide) rfl
  · exact fun ac W hL he => stepOk_no rfl rfl (he.get 36 42 (by kernel_rfl) rfl) (by decide) rfl
  · exact fun ac W hL he => stepOk_want rfl (op_pick (b := true) rfl (he.get 36 42 (by kernel_rfl) rfl) rfl)
  intro xs W hL hxs
  have h41 : xs 41 = .bool true := hxs 41 (by decide)
  clear hxs
  simp only [putL, Nat.reduceAdd, Act.put, List.setIfInBounds_toArray, List.set_cons_succ, List.set_cons_zero, h41]
  clear h41
  go_wp2_with fail
  go_ret
  exact ⟨rfl, hb.trans (hL.below.mono hb.size)⟩
set_option maxRecDepth 100000 in
set_option maxHeartbeats 2000000 in
theorem rright3 (s : Said) (hs : s.wf) (H1 : Hid (∀ W, (binOp .lss 3 (.int .i64 s.kind) (.int .i64 1)).run Tryz.prog W = .ok (.bool false) W)) (H2 : Hid (∀ W, (binOp .gtr 3 (.int .i64 s.kind) (.int .i64 14)).run Tryz.prog W = .ok (.bool false) W)) (HNM : Hid (∀ W, Calls Tryz.prog 28 #[.agg (saidC s)] W fun e w' => e = .returned (.agg (saidC (nmd s s.kind))) ∧ Later W w')) (HNQ : Hid (∀ W, (binOp .neq 29 (.agg (saidC s)) (.agg (saidC (nmd s s.kind)))).run Tryz.prog W = .ok (.bool true) W)) (w : World) : Calls Tryz.prog 11 #[.agg (saidC s)] w fun e w' => e = .returned (.bool false) ∧ Later w w' := by
  have k1 := Row.new w 29 (saidC s)
  have hbx := boxSaid hs w
  have hb := below_new w (.cells (saidC s) 29)
  go_enter Tryz.func11, Tryz.ntmps11
  go_upto_region 1 with fail
  obtain ⟨g, hg⟩ : ∃ q, q = w.heap.size := ⟨_, rfl⟩
  rw [← hg] at k1 ⊢
  clear hbx hg
  generalize w.alloc (.cells (saidC s) 29) = w1 at *
  have c0 : w1.cell? ⟨g, 0, none⟩ = some (.int .i64 s.kind) := (k1.cell 0).trans (saidC_kind hs)
  go_upto_region 2 with fail
  clear c0
  refine (wpIn_wide (n := 0)).1 ?_
  refine wpIn_region_vals wide_wide [Pr.eq (.int .i64 s.kind), Pr.eq (.bool false), Pr.eq (.bool false), Pr.eq (.int .i64 s.kind), Pr.eq (.bool false), Pr.eq (.bool false), Pr.eq (.bool false), Pr.eq (.agg (saidC s)), Pr.eq (.agg (saidC s)), Pr.eq (.agg (saidC (nmd s s.kind))), Pr.eq (.bool true), Pr.eq (.bool true), Pr.eq (.bool true), Pr.eq (undef), Pr.eq (undef), Pr.eq (undef), Pr.eq (undef), Pr.eq (.bool true), Pr.eq (.bool true), Pr.eq (undef), Pr.eq (undef), Pr.eq (undef), Pr.eq (undef), Pr.eq (.bool true), Pr.eq (.bool true), Pr.eq (undef), Pr.eq (undef), Pr.eq (undef), Pr.eq (undef), Pr.eq (.bool true), Pr.eq (.bool true), Pr.eq (undef), Pr.eq (undef), Pr.eq (undef), Pr.eq (undef), Pr.eq (.bool true), Pr.eq (.bool true), Pr.eq (undef), Pr.eq (undef), Pr.eq (undef), Pr.eq (undef), Pr.eq (.bool true)] (by kernel_rfl) (by kernel_rfl) (by kernel_rfl) (by kernel_rfl) (by kernel_rfl) ⟨?_, ?_, ?_, ?_, ?_, ?_, ?_, ?_, ?_, ?_, ?_, ?_, ?_, ?_, ?_, ?_, ?_, ?_, ?_, ?_, ?_, ?_, ?_, ?_, ?_, ?_, ?_, ?_, ?_, ?_, ?_, ?_, ?_, ?_, ?_, ?_, ?_, ?_, ?_, ?_, ?_, ?_, trivial⟩ ?_
  · exact fun ac W hL he => stepOk_want rfl (op_move rfl (he.keep (.tmp 3) (by kernel_rfl)))
  · exact fun ac W hL he => stepOk_want rfl (op_binOp rfl (he.get 0 6 (by kernel_rfl) rfl) rfl rfl (H1.out W) rfl)
  · exact fun ac W hL he => stepOk_want rfl (op_move rfl (he.get 1 7 (by kernel_rfl) rfl))
  · exact fun ac W hL he => stepOk_yes (j := 2) (t := 8) (b := false) rfl rfl (he.get 2 8 (by kernel_rfl) rfl) (op_move rfl (he.keep (.tmp 3) (by kernel_rfl)))
  · exact fun ac W hL he => stepOk_yes (j := 2) (t := 8) (b := false) rfl rfl (he.get 2 8 (by kernel_rfl) rfl) (op_binOp rfl (he.get 3 9 (by kernel_rfl) rfl) rfl rfl (H2.out W) rfl)
  · exact fun ac W hL he => stepOk_want rfl (op_pick (b := false) rfl (he.get 2 8 (by kernel_rfl) rfl) (he.get 4 10 (by kernel_rfl) rfl))
  · exact fun ac W hL he => stepOk_want rfl (op_move rfl (he.get 5 11 (by kernel_rfl) rfl))
  · exact fun ac W hL he => stepOk_yes (j := 6) (t := 12) (b := false) rfl rfl (he.get 6 12 (by kernel_rfl) rfl) (op_load rfl (he.keep (.tmp 1) (by kernel_rfl)) (loadSaid hs (k1.later hL)) rfl)
  · exact fun ac W hL he => stepOk_yes (j := 6) (t := 12) (b := false) rfl rfl (he.get 6 12 (by kernel_rfl) rfl) (op_load rfl (he.keep (.tmp 1) (by kernel_rfl)) (loadSaid hs (k1.later hL)) rfl)
  · intro ac W hL he; refine stepOk_yes (j := 6) (t := 12) (b := false) rfl rfl (he.get 6 12 (by kernel_rfl) rfl) ?_; have e0 : ac.eval (.tmp 14) = .agg (saidC s) := (he.get 8 14 (by kernel_rfl) rfl); exact op_callF (vs := #[.agg (saidC s)]) rfl (by simp only [List.map_toArray, List.map_cons, List.map_nil, e0]) (enters_of Tryz.func28 (by kernel_rfl) rfl) (((HNM.out W)).mono fun e W' ⟨he', hb⟩ => ⟨_, he', hb, rfl⟩)
  · exact fun ac W hL he => stepOk_yes (j := 6) (t := 12) (b := false) rfl rfl (he.get 6 12 (by kernel_rfl) rfl) (op_binOp rfl (he.get 7 13 (by kernel_rfl) rfl) (he.get 9 15 (by kernel_rfl) rfl) (by kernel_rfl) (HNQ.out W) rfl)
  · exact fun ac W hL he => stepOk_want rfl (op_pick (b := false) rfl (he.get 6 12 (by kernel_rfl) rfl) (he.get 10 16 (by kernel_rfl) rfl))
  · exact fun ac W hL he => stepOk_want rfl (op_move rfl (he.get 11 17 (by kernel_rfl) rfl))
  · exact fun ac W hL he => stepOk_no rfl rfl (he.get 12 18 (by kernel_rfl) rfl) (by decide) rfl
  · exact fun ac W hL he => stepOk_no rfl rfl (he.get 12 18 (by kernel_rfl) rfl) (by decide) rfl
  · exact fun ac W hL he => stepOk_no rfl rfl (he.get 12 18 (by kernel_rfl) rfl) (by decide) rfl
  · exact fun ac W hL he => stepOk_no rfl rfl (he.get 12 18 (by kernel_rfl) rfl) (by decide) rfl
  · exact fun ac W hL he => stepOk_want rfl (op_pick (b := true) rfl (he.get 12 18 (by kernel_rfl) rfl) rfl)
  · exact fun ac W hL he => stepOk_want rfl (op_move rfl (he.get 17 23 (by kernel_rfl) rfl))
  · exact fun ac W hL he => stepOk_no rfl rfl (he.get 18 24 (by kernel_rfl) rfl) (by decide) rfl
  · exact fun ac W hL he => stepOk_no rfl rfl (he.get 18 24 (by kernel_rfl) rfl) (by decide) rfl
  · exact fun ac W hL he => stepOk_no rfl rfl (he.get 18 24 (by kernel_rfl) rfl) (by decide) rfl
  · exact fun ac W hL he => stepOk_no rfl rfl (he.get 18 24 (by kernel_rfl) rfl) (by decide) rfl
  · exact fun ac W hL he => stepOk_want rfl (op_pick (b := true) rfl (he.get 18 24 (by kernel_rfl) rfl) rfl)
  · exact fun ac W hL he => stepOk_want rfl (op_move rfl (he.get 23 29 (by kernel_rfl) rfl))
  · exact fun ac W hL he => stepOk_no rfl rfl (he.get 24 30 (by kernel_rfl) rfl) (by decide) rfl
  · exact fun ac W hL he => stepOk_no rfl rfl (he.get 24 30 (by kernel_rfl) rfl) (by decide) rfl
  · exact fun ac W hL he => stepOk_no rfl rfl (he.get 24 30 (by kernel_rfl) rfl) (by decide) rfl
  · exact fun ac W hL he => stepOk_no rfl rfl (he.get 24 30 (by kernel_rfl) rfl) (by decide) rfl
  · exact fun ac W hL he => stepOk_want rfl (op_pick (b := true) rfl (he.get 24 30 (by kernel_rfl) rfl) rfl)
  · exact fun ac W hL he => stepOk_want rfl (op_move rfl (he.get 29 35 (by kernel_rfl) rfl))
  · exact fun ac W hL he => stepOk_no rfl rfl (he.get 30 36 (by kernel_rfl) rfl) (by decide) rfl
  · exact fun ac W hL he => stepOk_no rfl rfl (he.get 30 36 (by kernel_rfl) rfl) (by decide) rfl
  · exact fun ac W hL he => stepOk_no rfl rfl (he.get 30 36 (by kernel_rfl) rfl) (by decide) rfl
  · exact fun ac W hL he => stepOk_no rfl rfl (he.get 30 36 (by kernel_rfl) rfl) (by decide) rfl
  · exact fun ac W hL he => stepOk_want rfl (op_pick (b := true) rfl (he.get 30 36 (by kernel_rfl) rfl) rfl)
  · exact fun ac W hL he => stepOk_want rfl (op_move rfl (he.get 35 41 (by kernel_rfl) rfl))
  · exact fun ac W hL he => stepOk_no rfl rfl (he.get 36 42 (by kernel_rfl) rfl) (by decide) rfl
  · exact fun ac W hL he => stepOk_no rfl rfl (he.get 36 42 (by kernel_rfl) rfl) (by decide) rfl
  · exact fun ac W hL he => stepOk_no rfl rfl (he.get 36 42 (by kernel_rfl) rfl) (by decide) rfl
  · exact fun ac W hL he => stepOk_no rfl rfl (he.get 36 42 (by kernel_rfl) rfl) (by decide) rfl
  · exact fun ac W hL he => stepOk_want rfl (op_pick (b := true) rfl (he.get 36 42 (by kernel_rfl) rfl) rfl)
  intro xs W hL hxs
  have h41 : xs 41 = .bool true := hxs 41 (by decide)
  clear hxs
  simp only [putL, Nat.reduceAdd, Act.put, List.setIfInBounds_toArray, List.set_cons_succ, List.set_cons_zero, h41]
  clear h41
  go_wp2_with fail
  go_ret
  exact ⟨rfl, hb.trans (hL.below.mono hb.size)⟩
set_option maxRecDepth 100000 in
set_option maxHeartbeats 2000000 in
theorem rright4 (s : Said) (hs : s.wf) (H1 : Hid (∀ W, (binOp .lss 3 (.int .i64 s.kind) (.int .i64 1)).run Tryz.prog W = .ok (.bool false) W)) (H2 : Hid (∀ W, (binOp .gtr 3 (.int .i64 s.kind) (.int .i64 14)).run Tryz.prog W = .ok (.bool false) W)) (HNM : Hid (∀ W, Calls Tryz.prog 28 #[.agg (saidC s)] W fun e w' => e = .returned (.agg (saidC (nmd s s.kind))) ∧ Later W w')) (HNQ : Hid (∀ W, (binOp .neq 29 (.agg (saidC s)) (.agg (saidC (nmd s s.kind)))).run Tryz.prog W = .ok (.bool false) W)) (H4 : Hid (∀ W, Calls Tryz.prog 29 #[.int .i64 (s.n 7)] W fun e w' => w' = W ∧ e = .returned (.bool false))) (w : World) : Calls Tryz.prog 11 #[.agg (saidC s)] w fun e w' => e = .returned (.bool false) ∧ Later w w' := by
  have k1 := Row.new w 29 (saidC s)
  have hbx := boxSaid hs w
  have hb := below_new w (.cells (saidC s) 29)
  go_enter Tryz.func11, Tryz.ntmps11
  go_upto_region 1 with fail
  obtain ⟨g, hg⟩ : ∃ q, q = w.heap.size := ⟨_, rfl⟩
  rw [← hg] at k1 ⊢
  clear hbx hg
  generalize w.alloc (.cells (saidC s) 29) = w1 at *
  have c0 : w1.cell? ⟨g, 0, none⟩ = some (.int .i64 s.kind) := (k1.cell 0).trans (saidC_kind hs)
  go_upto_region 2 with fail
  clear c0
  refine (wpIn_wide (n := 0)).1 ?_
  refine wpIn_region_vals wide_wide [Pr.eq (.int .i64 s.kind), Pr.eq (.bool false), Pr.eq (.bool false), Pr.eq (.int .i64 s.kind), Pr.eq (.bool false), Pr.eq (.bool false), Pr.eq (.bool false), Pr.eq (.agg (saidC s)), Pr.eq (.agg (saidC s)), Pr.eq (.agg (saidC (nmd s s.kind))), Pr.eq (.bool false), Pr.eq (.bool false), Pr.eq (.bool false), Pr.eq (.pointer (some ⟨g, offN 7, none⟩)), Pr.eq (.int .i64 (s.n 7)), Pr.eq (.bool false), Pr.eq (.bool true), Pr.eq (.bool true), Pr.eq (.bool true), Pr.eq (undef), Pr.eq (undef), Pr.eq (undef), Pr.eq (undef), Pr.eq (.bool true), Pr.eq (.bool true), Pr.eq (undef), Pr.eq (undef), Pr.eq (undef), Pr.eq (undef), Pr.eq (.bool true), Pr.eq (.bool true), Pr.eq (undef), Pr.eq (undef), Pr.eq (undef), Pr.eq (undef), Pr.eq (.bool true), Pr.eq (.bool true), Pr.eq (undef), Pr.eq (undef), Pr.eq (undef), Pr.eq (undef), Pr.eq (.bool true)] (by kernel_rfl) (by kernel_rfl) (by kernel_rfl) (by kernel_rfl) (by kernel_rfl) ⟨?_, ?_, ?_, ?_, ?_, ?_, ?_, ?_, ?_, ?_, ?_, ?_, ?_, ?_, ?_, ?_, ?_, ?_, ?_, ?_, ?_, ?_, ?_, ?_, ?_, ?_, ?_, ?_, ?_, ?_, ?_, ?_, ?_, ?_, ?_, ?_, ?_, ?_, ?_, ?_, ?_, ?_, trivial⟩ ?_
  · exact fun ac W hL he => stepOk_want rfl (op_move rfl (he.keep (.tmp 3) (by kernel_rfl)))
  · exact fun ac W hL he => stepOk_want rfl (op_binOp rfl (he.get 0 6 (by kernel_rfl) rfl) rfl rfl (H1.out W) rfl)
  · exact fun ac W hL he => stepOk_want rfl (op_move rfl (he.get 1 7 (by kernel_rfl) rfl))
  · exact fun ac W hL he => stepOk_yes (j := 2) (t := 8) (b := false) rfl rfl (he.get 2 8 (by kernel_rfl) rfl) (op_move rfl (he.keep (.tmp 3) (by kernel_rfl)))
  · exact fun ac W hL he => stepOk_yes (j := 2) (t := 8) (b := false) rfl rfl (he.get 2 8 (by kernel_rfl) rfl) (op_binOp rfl (he.get 3 9 (by kernel_rfl) rfl) rfl rfl (H2.out W) rfl)
  · exact fun ac W hL he => stepOk_want rfl (op_pick (b := false) rfl (he.get 2 8 (by kernel_rfl) rfl) (he.get 4 10 (by kernel_rfl) rfl))
  · exact fun ac W hL he => stepOk_want rfl (op_move rfl (he.get 5 11 (by kernel_rfl) rfl))
  · exact fun ac W hL he => stepOk_yes (j := 6) (t := 12) (b := false) rfl rfl (he.get 6 12 (by kernel_rfl) rfl) (op_load rfl (he.keep (.tmp 1) (by kernel_rfl)) (loadSaid hs (k1.later hL)) rfl)
  · exact fun ac W hL he => stepOk_yes (j := 6) (t := 12) (b := false) rfl rfl (he.get 6 12 (by kernel_rfl) rfl) (op_load rfl (he.keep (.tmp 1) (by kernel_rfl)) (loadSaid hs (k1.later hL)) rfl)
  · intro ac W hL he; refine stepOk_yes (j := 6) (t := 12) (b := false) rfl rfl (he.get 6 12 (by kernel_rfl) rfl) ?_; have e0 : ac.eval (.tmp 14) = .agg (saidC s) := (he.get 8 14 (by kernel_rfl) rfl); exact op_callF (vs := #[.agg (saidC s)]) rfl (by simp only [List.map_toArray, List.map_cons, List.map_nil, e0]) (enters_of Tryz.func28 (by kernel_rfl) rfl) (((HNM.out W)).mono fun e W' ⟨he', hb⟩ => ⟨_, he', hb, rfl⟩)
  · exact fun ac W hL he => stepOk_yes (j := 6) (t := 12) (b := false) rfl rfl (he.get 6 12 (by kernel_rfl) rfl) (op_binOp rfl (he.get 7 13 (by kernel_rfl) rfl) (he.get 9 15 (by kernel_rfl) rfl) (by kernel_rfl) (HNQ.out W) rfl)
  · exact fun ac W hL he => stepOk_want rfl (op_pick (b := false) rfl (he.get 6 12 (by kernel_rfl) rfl) (he.get 10 16 (by kernel_rfl) rfl))
  · exact fun ac W hL he => stepOk_want rfl (op_move rfl (he.get 11 17 (by kernel_rfl) rfl))
  · exact fun ac W hL he => stepOk_yes (j := 12) (t := 18) (b := false) rfl rfl (he.get 12 18 (by kernel_rfl) rfl) (op_fieldAddr rfl (he.keep (.tmp 1) (by kernel_rfl)) (fieldSd 10 296 (by decide)) rfl)
  · exact fun ac W hL he => stepOk_yes (j := 12) (t := 18) (b := false) rfl rfl (he.get 12 18 (by kernel_rfl) rfl) (op_load rfl (he.get 13 19 (by kernel_rfl) rfl) (loadSaidN hs (k1.later hL) 7 (by decide)) rfl)
  · intro ac W hL he; refine stepOk_yes (j := 12) (t := 18) (b := false) rfl rfl (he.get 12 18 (by kernel_rfl) rfl) ?_; have e0 : ac.eval (.tmp 20) = .int .i64 (s.n 7) := (he.get 14 20 (by kernel_rfl) rfl); exact op_callF (vs := #[.int .i64 (s.n 7)]) rfl (by simp only [List.map_toArray, List.map_cons, List.map_nil, e0]) (enters_of Tryz.func29 (by kernel_rfl) rfl) (((H4.out W)).mono fun e W' ⟨hw', he'⟩ => ⟨_, he', hw' ▸ Later.refl _, rfl⟩)
  · exact fun ac W hL he => stepOk_yes (j := 12) (t := 18) (b := false) rfl rfl (he.get 12 18 (by kernel_rfl) rfl) (op_not rfl (he.get 15 21 (by kernel_rfl) rfl) rfl)
  · exact fun ac W hL he => stepOk_want rfl (op_pick (b := false) rfl (he.get 12 18 (by kernel_rfl) rfl) (he.get 16 22 (by kernel_rfl) rfl))
  · exact fun ac W hL he => stepOk_want rfl (op_move rfl (he.get 17 23 (by kernel_rfl) rfl))
  · exact fun ac W hL he => stepOk_no rfl rfl (he.get 18 24 (by kernel_rfl) rfl) (by decide) rfl
  · exact fun ac W hL he => stepOk_no rfl rfl (he.get 18 24 (by kernel_rfl) rfl) (by decide) rfl
  · exact fun ac W hL he => stepOk_no rfl rfl (he.get 18 24 (by kernel_rfl) rfl) (by decide) rfl
  · exact fun ac W hL he => stepOk_no rfl rfl (he.get 18 24 (by kernel_rfl) rfl) (by decide) rfl
  · exact fun ac W hL he => stepOk_want rfl (op_pick (b := true) rfl (he.get 18 24 (by kernel_rfl) rfl) rfl)
  · exact fun ac W hL he => stepOk_want rfl (op_move rfl (he.get 23 29 (by kernel_rfl) rfl))
  · exact fun ac W hL he => stepOk_no rfl rfl (he.get 24 30 (by kernel_rfl) rfl) (by decide) rfl
  · exact fun ac W hL he => stepOk_no rfl rfl (he.get 24 30 (by kernel_rfl) rfl) (by decide) rfl
  · exact fun ac W hL he => stepOk_no rfl rfl (he.get 24 30 (by kernel_rfl) rfl) (by decide) rfl
  · exact fun ac W hL he => stepOk_no rfl rfl (he.get 24 30 (by kernel_rfl) rfl) (by decide) rfl
  · exact fun ac W hL he => stepOk_want rfl (op_pick (b := true) rfl (he.get 24 30 (by kernel_rfl) rfl) rfl)
  · exact fun ac W hL he => stepOk_want rfl (op_move rfl (he.get 29 35 (by kernel_rfl) rfl))
  · exact fun ac W hL he => stepOk_no rfl rfl (he.get 30 36 (by kernel_rfl) rfl) (by decide) rfl
  · exact fun ac W hL he => stepOk_no rfl rfl (he.get 30 36 (by kernel_rfl) rfl) (by decide) rfl
  · exact fun ac W hL he => stepOk_no rfl rfl (he.get 30 36 (by kernel_rfl) rfl) (by decide) rfl
  · exact fun ac W hL he => stepOk_no rfl rfl (he.get 30 36 (by kernel_rfl) rfl) (by decide) rfl
  · exact fun ac W hL he => stepOk_want rfl (op_pick (b := true) rfl (he.get 30 36 (by kernel_rfl) rfl) rfl)
  · exact fun ac W hL he => stepOk_want rfl (op_move rfl (he.get 35 41 (by kernel_rfl) rfl))
  · exact fun ac W hL he => stepOk_no rfl rfl (he.get 36 42 (by kernel_rfl) rfl) (by decide) rfl
  · exact fun ac W hL he => stepOk_no rfl rfl (he.get 36 42 (by kernel_rfl) rfl) (by decide) rfl
  · exact fun ac W hL he => stepOk_no rfl rfl (he.get 36 42 (by kernel_rfl) rfl) (by decide) rfl
  · exact fun ac W hL he => stepOk_no rfl rfl (he.get 36 42 (by kernel_rfl) rfl) (by decide) rfl
  · exact fun ac W hL he => stepOk_want rfl (op_pick (b := true) rfl (he.get 36 42 (by kernel_rfl) rfl) rfl)
  intro xs W hL hxs
  have h41 : xs 41 = .bool true := hxs 41 (by decide)
  clear hxs
  simp only [putL, Nat.reduceAdd, Act.put, List.setIfInBounds_toArray, List.set_cons_succ, List.set_cons_zero, h41]
  clear h41
  go_wp2_with fail
  go_ret
  exact ⟨rfl, hb.trans (hL.below.mono hb.size)⟩
set_option maxRecDepth 100000 in
set_option maxHeartbeats 2000000 in
theorem rright5 (s : Said) (hs : s.wf) (H1 : Hid (∀ W, (binOp .lss 3 (.int .i64 s.kind) (.int .i64 1)).run Tryz.prog W = .ok (.bool false) W)) (H2 : Hid (∀ W, (binOp .gtr 3 (.int .i64 s.kind) (.int .i64 14)).run Tryz.prog W = .ok (.bool false) W)) (HNM : Hid (∀ W, Calls Tryz.prog 28 #[.agg (saidC s)] W fun e w' => e = .returned (.agg (saidC (nmd s s.kind))) ∧ Later W w')) (HNQ : Hid (∀ W, (binOp .neq 29 (.agg (saidC s)) (.agg (saidC (nmd s s.kind)))).run Tryz.prog W = .ok (.bool false) W)) (H4 : Hid (∀ W, Calls Tryz.prog 29 #[.int .i64 (s.n 7)] W fun e w' => w' = W ∧ e = .returned (.bool true))) (H5 : Hid (∀ W, Calls Tryz.prog 29 #[.int .i64 (s.n 8)] W fun e w' => w' = W ∧ e = .returned (.bool false))) (w : World) : Calls Tryz.prog 11 #[.agg (saidC s)] w fun e w' => e = .returned (.bool false) ∧ Later w w' := by
  have k1 := Row.new w 29 (saidC s)
  have hbx := boxSaid hs w
  have hb := below_new w (.cells (saidC s) 29)
  go_enter Tryz.func11, Tryz.ntmps11
  go_upto_region 1 with fail
  obtain ⟨g, hg⟩ : ∃ q, q = w.heap.size := ⟨_, rfl⟩
  rw [← hg] at k1 ⊢
  clear hbx hg
  generalize w.alloc (.cells (saidC s) 29) = w1 at *
  have c0 : w1.cell? ⟨g, 0, none⟩ = some (.int .i64 s.kind) := (k1.cell 0).trans (saidC_kind hs)
  go_upto_region 2 with fail
  clear c0
  refine (wpIn_wide (n := 0)).1 ?_
  refine wpIn_region_vals wide_wide [Pr.eq (.int .i64 s.kind), Pr.eq (.bool false), Pr.eq (.bool false), Pr.eq (.int .i64 s.kind), Pr.eq (.bool false), Pr.eq (.bool false), Pr.eq (.bool false), Pr.eq (.agg (saidC s)), Pr.eq (.agg (saidC s)), Pr.eq (.agg (saidC (nmd s s.kind))), Pr.eq (.bool false), Pr.eq (.bool false), Pr.eq (.bool false), Pr.eq (.pointer (some ⟨g, offN 7, none⟩)), Pr.eq (.int .i64 (s.n 7)), Pr.eq (.bool true), Pr.eq (.bool false), Pr.eq (.bool false), Pr.eq (.bool false), Pr.eq (.pointer (some ⟨g, offN 8, none⟩)), Pr.eq (.int .i64 (s.n 8)), Pr.eq (.bool false), Pr.eq (.bool true), Pr.eq (.bool true), Pr.eq (.bool true), Pr.eq (undef), Pr.eq (undef), Pr.eq (undef), Pr.eq (undef), Pr.eq (.bool true), Pr.eq (.bool true), Pr.eq (undef), Pr.eq (undef), Pr.eq (undef), Pr.eq (undef), Pr.eq (.bool true), Pr.eq (.bool true), Pr.eq (undef), Pr.eq (undef), Pr.eq (undef), Pr.eq (undef), Pr.eq (.bool true)] (by kernel_rfl) (by kernel_rfl) (by kernel_rfl) (by kernel_rfl) (by kernel_rfl) ⟨?_, ?_, ?_, ?_, ?_, ?_, ?_, ?_, ?_, ?_, ?_, ?_, ?_, ?_, ?_, ?_, ?_, ?_, ?_, ?_, ?_, ?_, ?_, ?_, ?_, ?_, ?_, ?_, ?_, ?_, ?_, ?_, ?_, ?_, ?_, ?_, ?_, ?_, ?_, ?_, ?_, ?_, trivial⟩ ?_
  · exact fun ac W hL he => stepOk_want rfl (op_move rfl (he.keep (.tmp 3) (by kernel_rfl)))
  · exact fun ac W hL he => stepOk_want rfl (op_binOp rfl (he.get 0 6 (by kernel_rfl) rfl) rfl rfl (H1.out W) rfl)
  · exact fun ac W hL he => stepOk_want rfl (op_move rfl (he.get 1 7 (by kernel_rfl) rfl))
  · exact fun ac W hL he => stepOk_yes (j := 2) (t := 8) (b := false) rfl rfl (he.get 2 8 (by kernel_rfl) rfl) (op_move rfl (he.keep (.tmp 3) (by kernel_rfl)))
  · exact fun ac W hL he => stepOk_yes (j := 2) (t := 8) (b := false) rfl rfl (he.get 2 8 (by kernel_rfl) rfl) (op_binOp rfl (he.get 3 9 (by kernel_rfl) rfl) rfl rfl (H2.out W) rfl)
  · exact fun ac W hL he => stepOk_want rfl (op_pick (b := false) rfl (he.get 2 8 (by kernel_rfl) rfl) (he.get 4 10 (by kernel_rfl) rfl))
  · exact fun ac W hL he => stepOk_want rfl (op_move rfl (he.get 5 11 (by kernel_rfl) rfl))
  · exact fun ac W hL he => stepOk_yes (j := 6) (t := 12) (b := false) rfl rfl (he.get 6 12 (by kernel_rfl) rfl) (op_load rfl (he.keep (.tmp 1) (by kernel_rfl)) (loadSaid hs (k1.later hL)) rfl)
  · exact fun ac W hL he => stepOk_yes (j := 6) (t := 12) (b := false) rfl rfl (he.get 6 12 (by kernel_rfl) rfl) (op_load rfl (he.keep (.tmp 1) (by kernel_rfl)) (loadSaid hs (k1.later hL)) rfl)
  · intro ac W hL he; refine stepOk_yes (j := 6) (t := 12) (b := false) rfl rfl (he.get 6 12 (by kernel_rfl) rfl) ?_; have e0 : ac.eval (.tmp 14) = .agg (saidC s) := (he.get 8 14 (by kernel_rfl) rfl); exact op_callF (vs := #[.agg (saidC s)]) rfl (by simp only [List.map_toArray, List.map_cons, List.map_nil, e0]) (enters_of Tryz.func28 (by kernel_rfl) rfl) (((HNM.out W)).mono fun e W' ⟨he', hb⟩ => ⟨_, he', hb, rfl⟩)
  · exact fun ac W hL he => stepOk_yes (j := 6) (t := 12) (b := false) rfl rfl (he.get 6 12 (by kernel_rfl) rfl) (op_binOp rfl (he.get 7 13 (by kernel_rfl) rfl) (he.get 9 15 (by kernel_rfl) rfl) (by kernel_rfl) (HNQ.out W) rfl)
  · exact fun ac W hL he => stepOk_want rfl (op_pick (b := false) rfl (he.get 6 12 (by kernel_rfl) rfl) (he.get 10 16 (by kernel_rfl) rfl))
  · exact fun ac W hL he => stepOk_want rfl (op_move rfl (he.get 11 17 (by kernel_rfl) rfl))
  · exact fun ac W hL he => stepOk_yes (j := 12) (t := 18) (b := false) rfl rfl (he.get 12 18 (by kernel_rfl) rfl) (op_fieldAddr rfl (he.keep (.tmp 1) (by kernel_rfl)) (fieldSd 10 296 (by decide)) rfl)
  · exact fun ac W hL he => stepOk_yes (j := 12) (t := 18) (b := false) rfl rfl (he.get 12 18 (by kernel_rfl) rfl) (op_load rfl (he.get 13 19 (by kernel_rfl) rfl) (loadSaidN hs (k1.later hL) 7 (by decide)) rfl)
  · intro ac W hL he; refine stepOk_yes (j := 12) (t := 18) (b := false) rfl rfl (he.get 12 18 (by kernel_rfl) rfl) ?_; have e0 : ac.eval (.tmp 20) = .int .i64 (s.n 7) := (he.get 14 20 (by kernel_rfl) rfl); exact op_callF (vs := #[.int .i64 (s.n 7)]) rfl (by simp only [List.map_toArray, List.map_cons, List.map_nil, e0]) (enters_of Tryz.func29 (by kernel_rfl) rfl) (((H4.out W)).mono fun e W' ⟨hw', he'⟩ => ⟨_, he', hw' ▸ Later.refl _, rfl⟩)
  · exact fun ac W hL he => stepOk_yes (j := 12) (t := 18) (b := false) rfl rfl (he.get 12 18 (by kernel_rfl) rfl) (op_not rfl (he.get 15 21 (by kernel_rfl) rfl) rfl)
  · exact fun ac W hL he => stepOk_want rfl (op_pick (b := false) rfl (he.get 12 18 (by kernel_rfl) rfl) (he.get 16 22 (by kernel_rfl) rfl))
  · exact fun ac W hL he => stepOk_want rfl (op_move rfl (he.get 17 23 (by kernel_rfl) rfl))
  · exact fun ac W hL he => stepOk_yes (j := 18) (t := 24) (b := false) rfl rfl (he.get 18 24 (by kernel_rfl) rfl) (op_fieldAddr rfl (he.keep (.tmp 1) (by kernel_rfl)) (fieldSd 11 297 (by decide)) rfl)
  · exact fun ac W hL he => stepOk_yes (j := 18) (t := 24) (b := false) rfl rfl (he.get 18 24 (by kernel_rfl) rfl) (op_load rfl (he.get 19 25 (by kernel_rfl) rfl) (loadSaidN hs (k1.later hL) 8 (by decide)) rfl)
  · intro ac W hL he; refine stepOk_yes (j := 18) (t := 24) (b := false) rfl rfl (he.get 18 24 (by kernel_rfl) rfl) ?_; have e0 : ac.eval (.tmp 26) = .int .i64 (s.n 8) := (he.get 20 26 (by kernel_rfl) rfl); exact op_callF (vs := #[.int .i64 (s.n 8)]) rfl (by simp only [List.map_toArray, List.map_cons, List.map_nil, e0]) (enters_of Tryz.func29 (by kernel_rfl) rfl) (((H5.out W)).mono fun e W' ⟨hw', he'⟩ => ⟨_, he', hw' ▸ Later.refl _, rfl⟩)
  · exact fun ac W hL he => stepOk_yes (j := 18) (t := 24) (b := false) rfl rfl (he.get 18 24 (by kernel_rfl) rfl) (op_not rfl (he.get 21 27 (by kernel_rfl) rfl) rfl)
  · exact fun ac W hL he => stepOk_want rfl (op_pick (b := false) rfl (he.get 18 24 (by kernel_rfl) rfl) (he.get 22 28 (by kernel_rfl) rfl))
  · exact fun ac W hL he => stepOk_want rfl (op_move rfl (he.get 23 29 (by kernel_rfl) rfl))
  · exact fun ac W hL he => stepOk_no rfl rfl (he.get 24 30 (by kernel_rfl) rfl) (by decide) rfl
  · exact fun ac W hL he => stepOk_no rfl rfl (he.get 24 30 (by kernel_rfl) rfl) (by decide) rfl
  · exact fun ac W hL he => stepOk_no rfl rfl (he.get 24 30 (by kernel_rfl) rfl) (by decide) rfl
  · exact fun ac W hL he => stepOk_no rfl rfl (he.get 24 30 (by kernel_rfl) rfl) (by decide) rfl
  · exact fun ac W hL he => stepOk_want rfl (op_pick (b := true) rfl (he.get 24 30 (by kernel_rfl) rfl) rfl)
  · exact fun ac W hL he => stepOk_want rfl (op_move rfl (he.get 29 35 (by kernel_rfl) rfl))
  · exact fun ac W hL he => stepOk_no rfl rfl (he.get 30 36 (by kernel_rfl) rfl) (by decide) rfl
  · exact fun ac W hL he => stepOk_no rfl rfl (he.get 30 36 (by kernel_rfl) rfl) (by decide) rfl
  · exact fun ac W hL he => stepOk_no rfl rfl (he.get 30 36 (by kernel_rfl) rfl) (by decide) rfl
  · exact fun ac W hL he => stepOk_no rfl rfl (he.get 30 36 (by kernel_rfl) rfl) (by decide) rfl
  · exact fun ac W hL he => stepOk_want rfl (op_pick (b := true) rfl (he.get 30 36 (by kernel_rfl) rfl) rfl)
  · exact fun ac W hL he => stepOk_want rfl (op_move rfl (he.get 35 41 (by kernel_rfl) rfl))
  · exact fun ac W hL he => stepOk_no rfl rfl (he.get 36 42 (by kernel_rfl) rfl) (by decide) rfl
  · exact fun ac W hL he => stepOk_no rfl rfl (he.get 36 42 (by kernel_rfl) rfl) (by decide) rfl
  · exact fun ac W hL he => stepOk_no rfl rfl (he.get 36 42 (by kernel_rfl) rfl) (by decide) rfl
  · exact fun ac W hL he => stepOk_no rfl rfl (he.get 36 42 (by kernel_rfl) rfl) (by decide) rfl
  · exact fun ac W hL he => stepOk_want rfl (op_pick (b := true) rfl (he.get 36 42 (by kernel_rfl) rfl) rfl)
  intro xs W hL hxs
  have h41 : xs 41 = .bool true := hxs 41 (by decide)
  clear hxs
  simp only [putL, Nat.reduceAdd, Act.put, List.setIfInBounds_toArray, List.set_cons_succ, List.set_cons_zero, h41]
  clear h41
  go_wp2_with fail
  go_ret
  exact ⟨rfl, hb.trans (hL.below.mono hb.size)⟩
set_option maxRecDepth 100000 in
set_option maxHeartbeats 2000000 in
theorem rright6 (s : Said) (hs : s.wf) (H1 : Hid (∀ W, (binOp .lss 3 (.int .i64 s.kind) (.int .i64 1)).run Tryz.prog W = .ok (.bool false) W)) (H2 : Hid (∀ W, (binOp .gtr 3 (.int .i64 s.kind) (.int .i64 14)).run Tryz.prog W = .ok (.bool false) W)) (HNM : Hid (∀ W, Calls Tryz.prog 28 #[.agg (saidC s)] W fun e w' => e = .returned (.agg (saidC (nmd s s.kind))) ∧ Later W w')) (HNQ : Hid (∀ W, (binOp .neq 29 (.agg (saidC s)) (.agg (saidC (nmd s s.kind)))).run Tryz.prog W = .ok (.bool false) W)) (H4 : Hid (∀ W, Calls Tryz.prog 29 #[.int .i64 (s.n 7)] W fun e w' => w' = W ∧ e = .returned (.bool true))) (H5 : Hid (∀ W, Calls Tryz.prog 29 #[.int .i64 (s.n 8)] W fun e w' => w' = W ∧ e = .returned (.bool true))) (H6 : Hid (∀ W, Calls Tryz.prog 29 #[.int .i64 (s.n 9)] W fun e w' => w' = W ∧ e = .returned (.bool false))) (w : World) : Calls Tryz.prog 11 #[.agg (saidC s)] w fun e w' => e = .returned (.bool false) ∧ Later w w' := by
  have k1 := Row.new w 29 (saidC s)
  have hbx := boxSaid hs w
  have hb := below_new w (.cells (saidC s) 29)
  go_enter Tryz.func11, Tryz.ntmps11
  go_upto_region 1 with fail
  obtain ⟨g, hg⟩ : ∃ q, q = w.heap.size := ⟨_, rfl⟩
  rw [← hg] at k1 ⊢
  clear hbx hg
  generalize w.alloc (.cells (saidC s) 29) = w1 at *
  have c0 : w1.cell? ⟨g, 0, none⟩ = some (.int .i64 s.kind) := (k1.cell 0).trans (saidC_kind hs)
  go_upto_region 2 with fail
  clear c0
  refine (wpIn_wide (n := 0)).1 ?_
  refine wpIn_region_vals wide_wide [Pr.eq (.int .i64 s.kind), Pr.eq (.bool false), Pr.eq (.bool false), Pr.eq (.int .i64 s.kind), Pr.eq (.bool false), Pr.eq (.bool false), Pr.eq (.bool false), Pr.eq (.agg (saidC s)), Pr.eq (.agg (saidC s)), Pr.eq (.agg (saidC (nmd s s.kind))), Pr.eq (.bool false), Pr.eq (.bool false), Pr.eq (.bool false), Pr.eq (.pointer (some ⟨g, offN 7, none⟩)), Pr.eq (.int .i64 (s.n 7)), Pr.eq (.bool true), Pr.eq (.bool false), Pr.eq (.bool false), Pr.eq (.bool false), Pr.eq (.pointer (some ⟨g, offN 8, none⟩)), Pr.eq (.int .i64 (s.n 8)), Pr.eq (.bool true), Pr.eq (.bool false), Pr.eq (.bool false), Pr.eq (.bool false), Pr.eq (.pointer (some ⟨g, offN 9, none⟩)), Pr.eq (.int .i64 (s.n 9)), Pr.eq (.bool false), Pr.eq (.bool true), Pr.eq (.bool true), Pr.eq (.bool true), Pr.eq (undef), Pr.eq (undef), Pr.eq (undef), Pr.eq (undef), Pr.eq (.bool true), Pr.eq (.bool true), Pr.eq (undef), Pr.eq (undef), Pr.eq (undef), Pr.eq (undef), Pr.eq (.bool true)] (by kernel_rfl) (by kernel_rfl) (by kernel_rfl) (by kernel_rfl) (by kernel_rfl) ⟨?_, ?_, ?_, ?_, ?_, ?_, ?_, ?_, ?_, ?_, ?_, ?_, ?_, ?_, ?_, ?_, ?_, ?_, ?_, ?_, ?_, ?_, ?_, ?_, ?_, ?_, ?_, ?_, ?_, ?_, ?_, ?_, ?_, ?_, ?_, ?_, ?_, ?_, ?_, ?_, ?_, ?_, trivial⟩ ?_
  · exact fun ac W hL he => stepOk_want rfl (op_move rfl (he.keep (.tmp 3) (by kernel_rfl)))
  · exact fun ac W hL he => stepOk_want rfl (op_binOp rfl (he.get 0 6 (by kernel_rfl) rfl) rfl rfl (H1.out W) rfl)
  · exact fun ac W hL he => stepOk_want rfl (op_move rfl (he.get 1 7 (by kernel_rfl) rfl))
  · exact fun ac W hL he => stepOk_yes (j := 2) (t := 8) (b := false) rfl rfl (he.get 2 8 (by kernel_rfl) rfl) (op_move rfl (he.keep (.tmp 3) (by kernel_rfl)))
  · exact fun ac W hL he => stepOk_yes (j := 2) (t := 8) (b := false) rfl rfl (he.get 2 8 (by kernel_rfl) rfl) (op_binOp rfl (he.get 3 9 (by kernel_rfl) rfl) rfl rfl (H2.out W) rfl)
  · exact fun ac W hL he => stepOk_want rfl (op_pick (b := false) rfl (he.get 2 8 (by kernel_rfl) rfl) (he.get 4 10 (by kernel_rfl) rfl))
  · exact fun ac W hL he => stepOk_want rfl (op_move rfl (he.get 5 11 (by kernel_rfl) rfl))
  · exact fun ac W hL he => stepOk_yes (j := 6) (t := 12) (b := false) rfl rfl (he.get 6 12 (by kernel_rfl) rfl) (op_load rfl (he.keep (.tmp 1) (by kernel_rfl)) (loadSaid hs (k1.later hL)) rfl)
  · exact fun ac W hL he => stepOk_yes (j := 6) (t := 12) (b := false) rfl rfl (he.get 6 12 (by kernel_rfl) rfl) (op_load rfl (he.keep (.tmp 1) (by kernel_rfl)) (loadSaid hs (k1.later hL)) rfl)
  · intro ac W hL he; refine stepOk_yes (j := 6) (t := 12) (b := false) rfl rfl (he.get 6 12 (by kernel_rfl) rfl) ?_; have e0 : ac.eval (.tmp 14) = .agg (saidC s) := (he.get 8 14 (by kernel_rfl) rfl); exact op_callF (vs := #[.agg (saidC s)]) rfl (by simp only [List.map_toArray, List.map_cons, List.map_nil, e0]) (enters_of Tryz.func28 (by kernel_rfl) rfl) (((HNM.out W)).mono fun e W' ⟨he', hb⟩ => ⟨_, he', hb, rfl⟩)
  · exact fun ac W hL he => stepOk_yes (j := 6) (t := 12) (b := false) rfl rfl (he.get 6 12 (by kernel_rfl) rfl) (op_binOp rfl (he.get 7 13 (by kernel_rfl) rfl) (he.get 9 15 (by kernel_rfl) rfl) (by kernel_rfl) (HNQ.out W) rfl)
  · exact fun ac W hL he => stepOk_want rfl (op_pick (b := false) rfl (he.get 6 12 (by kernel_rfl) rfl) (he.get 10 16 (by kernel_rfl) rfl))
  · exact fun ac W hL he => stepOk_want rfl (op_move rfl (he.get 11 17 (by kernel_rfl) rfl))
  · exact fun ac W hL he => stepOk_yes (j := 12) (t := 18) (b := false) rfl rfl (he.get 12 18 (by kernel_rfl) rfl) (op_fieldAddr rfl (he.keep (.tmp 1) (by kernel_rfl)) (fieldSd 10 296 (by decide)) rfl)
  · exact fun ac W hL he => stepOk_yes (j := 12) (t := 18) (b := false) rfl rfl (he.get 12 18 (by kernel_rfl) rfl) (op_load rfl (he.get 13 19 (by kernel_rfl) rfl) (loadSaidN hs (k1.later hL) 7 (by decide)) rfl)
  · intro ac W hL he; refine stepOk_yes (j := 12) (t := 18) (b := false) rfl rfl (he.get 12 18 (by kernel_rfl) rfl) ?_; have e0 : ac.eval (.tmp 20) = .int .i64 (s.n 7) := (he.get 14 20 (by kernel_rfl) rfl); exact op_callF (vs := #[.int .i64 (s.n 7)]) rfl (by simp only [List.map_toArray, List.map_cons, List.map_nil, e0]) (enters_of Tryz.func29 (by kernel_rfl) rfl) (((H4.out W)).mono fun e W' ⟨hw', he'⟩ => ⟨_, he', hw' ▸ Later.refl _, rfl⟩)
  · exact fun ac W hL he => stepOk_yes (j := 12) (t := 18) (b := false) rfl rfl (he.get 12 18 (by kernel_rfl) rfl) (op_not rfl (he.get 15 21 (by kernel_rfl) rfl) rfl)
  · exact fun ac W hL he => stepOk_want rfl (op_pick (b := false) rfl (he.get 12 18 (by kernel_rfl) rfl) (he.get 16 22 (by kernel_rfl) rfl))
  · exact fun ac W hL he => stepOk_want rfl (op_move rfl (he.get 17 23 (by kernel_rfl) rfl))
  · exact fun ac W hL he => stepOk_yes (j := 18) (t := 24) (b := false) rfl rfl (he.get 18 24 (by kernel_rfl) rfl) (op_fieldAddr rfl (he.keep (.tmp 1) (by kernel_rfl)) (fieldSd 11 297 (by decide)) rfl)
  · exact fun ac W hL he => stepOk_yes (j := 18) (t := 24) (b := false) rfl rfl (he.get 18 24 (by kernel_rfl) rfl) (op_load rfl (he.get 19 25 (by kernel_rfl) rfl) (loadSaidN hs (k1.later hL) 8 (by decide)) rfl)
  · intro ac W hL he; refine stepOk_yes (j := 18) (t := 24) (b := false) rfl rfl (he.get 18 24 (by kernel_rfl) rfl) ?_; have e0 : ac.eval (.tmp 26) = .int .i64 (s.n 8) := (he.get 20 26 (by kernel_rfl) rfl); exact op_callF (vs := #[.int .i64 (s.n 8)]) rfl (by simp only [List.map_toArray, List.map_cons, List.map_nil, e0]) (enters_of Tryz.func29 (by kernel_rfl) rfl) (((H5.out W)).mono fun e W' ⟨hw', he'⟩ => ⟨_, he', hw' ▸ Later.refl _, rfl⟩)
  · exact fun ac W hL he => stepOk_yes (j := 18) (t := 24) (b := false) rfl rfl (he.get 18 24 (by kernel_rfl) rfl) (op_not rfl (he.get 21 27 (by kernel_rfl) rfl) rfl)
  · exact fun ac W hL he => stepOk_want rfl (op_pick (b := false) rfl (he.get 18 24 (by kernel_rfl) rfl) (he.get 22 28 (by kernel_rfl) rfl))
  · exact fun ac W hL he => stepOk_want rfl (op_move rfl (he.get 23 29 (by kernel_rfl) rfl))
  · exact fun ac W hL he => stepOk_yes (j := 24) (t := 30) (b := false) rfl rfl (he.get 24 30 (by kernel_rfl) rfl) (op_fieldAddr rfl (he.keep (.tmp 1) (by kernel_rfl)) (fieldSd 12 298 (by decide)) rfl)
  · exact fun ac W hL he => stepOk_yes (j := 24) (t := 30) (b := false) rfl rfl (he.get 24 30 (by kernel_rfl) rfl) (op_load rfl (he.get 25 31 (by kernel_rfl) rfl) (loadSaidN hs (k1.later hL) 9 (by decide)) rfl)
  · intro ac W hL he; refine stepOk_yes (j := 24) (t := 30) (b := false) rfl rfl (he.get 24 30 (by kernel_rfl) rfl) ?_; have e0 : ac.eval (.tmp 32) = .int .i64 (s.n 9) := (he.get 26 32 (by kernel_rfl) rfl); exact op_callF (vs := #[.int .i64 (s.n 9)]) rfl (by simp only [List.map_toArray, List.map_cons, List.map_nil, e0]) (enters_of Tryz.func29 (by kernel_rfl) rfl) (((H6.out W)).mono fun e W' ⟨hw', he'⟩ => ⟨_, he', hw' ▸ Later.refl _, rfl⟩)
  · exact fun ac W hL he => stepOk_yes (j := 24) (t := 30) (b := false) rfl rfl (he.get 24 30 (by kernel_rfl) rfl) (op_not rfl (he.get 27 33 (by kernel_rfl) rfl) rfl)
  · exact fun ac W hL he => stepOk_want rfl (op_pick (b := false) rfl (he.get 24 30 (by kernel_rfl) rfl) (he.get 28 34 (by kernel_rfl) rfl))
  · exact fun ac W hL he => stepOk_want rfl (op_move rfl (he.get 29 35 (by kernel_rfl) rfl))
  · exact fun ac W hL he => stepOk_no rfl rfl (he.get 30 36 (by kernel_rfl) rfl) (by decide) rfl
  · exact fun ac W hL he => stepOk_no rfl rfl (he.get 30 36 (by kernel_rfl) rfl) (by decide) rfl
  · exact fun ac W hL he => stepOk_no rfl rfl (he.get 30 36 (by kernel_rfl) rfl) (by decide) rfl
  · exact fun ac W hL he => stepOk_no rfl rfl (he.get 30 36 (by kernel_rfl) rfl) (by decide) rfl
  · exact fun ac W hL he => stepOk_want rfl (op_pick (b := true) rfl (he.get 30 36 (by kernel_rfl) rfl) rfl)
  · exact fun ac W hL he => stepOk_want rfl (op_move rfl (he.get 35 41 (by kernel_rfl) rfl))
  · exact fun ac W hL he => stepOk_no rfl rfl (he.get 36 42 (by kernel_rfl) rfl) (by decide) rfl
  · exact fun ac W hL he => stepOk_no rfl rfl (he.get 36 42 (by kernel_rfl) rfl) (by decide) rfl
  · exact fun ac W hL he => stepOk_no rfl rfl (he.get 36 42 (by kernel_rfl) rfl) (by decide) rfl
  · exact fun ac W hL he => stepOk_no rfl rfl (he.get 36 42 (by kernel_rfl) rfl) (by decide) rfl
  · exact fun ac W hL he => stepOk_want rfl (op_pick (b := true) rfl (he.get 36 42 (by kernel_rfl) rfl) rfl)
  intro xs W hL hxs
  have h41 : xs 41 = .bool true := hxs 41 (by decide)
  clear hxs
  simp only [putL, Nat.reduceAdd, Act.put, List.setIfInBounds_toArray, List.set_cons_succ, List.set_cons_zero, h41]
  clear h41
  go_wp2_with fail
  go_ret
  exact ⟨rfl, hb.trans (hL.below.mono hb.size)⟩
set_option maxRecDepth 100000 in
set_option maxHeartbeats 2000000 in
theorem rright7 (s : Said) (hs : s.wf) (H1 : Hid (∀ W, (binOp .lss 3 (.int .i64 s.kind) (.int .i64 1)).run Tryz.prog W = .ok (.bool false) W)) (H2 : Hid (∀ W, (binOp .gtr 3 (.int .i64 s.kind) (.int .i64 14)).run Tryz.prog W = .ok (.bool false) W)) (HNM : Hid (∀ W, Calls Tryz.prog 28 #[.agg (saidC s)] W fun e w' => e = .returned (.agg (saidC (nmd s s.kind))) ∧ Later W w')) (HNQ : Hid (∀ W, (binOp .neq 29 (.agg (saidC s)) (.agg (saidC (nmd s s.kind)))).run Tryz.prog W = .ok (.bool false) W)) (H4 : Hid (∀ W, Calls Tryz.prog 29 #[.int .i64 (s.n 7)] W fun e w' => w' = W ∧ e = .returned (.bool true))) (H5 : Hid (∀ W, Calls Tryz.prog 29 #[.int .i64 (s.n 8)] W fun e w' => w' = W ∧ e = .returned (.bool true))) (H6 : Hid (∀ W, Calls Tryz.prog 29 #[.int .i64 (s.n 9)] W fun e w' => w' = W ∧ e = .returned (.bool true))) (H7 : Hid (∀ W, Calls Tryz.prog 29 #[.int .i64 (s.n 10)] W fun e w' => w' = W ∧ e = .returned (.bool false))) (w : World) : Calls Tryz.prog 11 #[.agg (saidC s)] w fun e w' => e = .returned (.bool false) ∧ Later w w' := by
  have k1 := Row.new w 29 (saidC s)
  have hbx := boxSaid hs w
  have hb := below_new w (.cells (saidC s) 29)
  go_enter Tryz.func11, Tryz.ntmps11
  go_upto_region 1 with fail
  obtain ⟨g, hg⟩ : ∃ q, q = w.heap.size := ⟨_, rfl⟩
  rw [← hg] at k1 ⊢
  clear hbx hg
  generalize w.alloc (.cells (saidC s) 29) = w1 at *
  have c0 : w1.cell? ⟨g, 0, none⟩ = some (.int .i64 s.kind) := (k1.cell 0).trans (saidC_kind hs)
  go_upto_region 2 with fail
  clear c0
  refine (wpIn_wide (n := 0)).1 ?_
  refine wpIn_region_vals wide_wide [Pr.eq (.int .i64 s.kind), Pr.eq (.bool false), Pr.eq (.bool false), Pr.eq (.int .i64 s.kind), Pr.eq (.bool false), Pr.eq (.bool false), Pr.eq (.bool false), Pr.eq (.agg (saidC s)), Pr.eq (.agg (saidC s)), Pr.eq (.agg (saidC (nmd s s.kind))), Pr.eq (.bool false), Pr.eq (.bool false), Pr.eq (.bool false), Pr.eq (.pointer (some ⟨g, offN 7, none⟩)), Pr.eq (.int .i64 (s.n 7)), Pr.eq (.bool true), Pr.eq (.bool false), Pr.eq (.bool false), Pr.eq (.bool false), Pr.eq (.pointer (some ⟨g, offN 8, none⟩)), Pr.eq (.int .i64 (s.n 8)), Pr.eq (.bool true), Pr.eq (.bool false), Pr.eq (.bool false), Pr.eq (.bool false), Pr.eq (.pointer (some ⟨g, offN 9, none⟩)), Pr.eq (.int .i64 (s.n 9)), Pr.eq (.bool true), Pr.eq (.bool false), Pr.eq (.bool false), Pr.eq (.bool false), Pr.eq (.pointer (some ⟨g, offN 10, none⟩)), Pr.eq (.int .i64 (s.n 10)), Pr.eq (.bool false), Pr.eq (.bool true), Pr.eq (.bool true), Pr.eq (.bool true), Pr.eq (undef), Pr.eq (undef), Pr.eq (undef), Pr.eq (undef), Pr.eq (.bool true)] (by kernel_rfl) (by kernel_rfl) (by kernel_rfl) (by kernel_rfl) (by kernel_rfl) ⟨?_, ?_, ?_, ?_, ?_, ?_, ?_, ?_, ?_, ?_, ?_, ?_, ?_, ?_, ?_, ?_, ?_, ?_, ?_, ?_, ?_, ?_, ?_, ?_, ?_, ?_, ?_, ?_, ?_, ?_, ?_, ?_, ?_, ?_, ?_, ?_, ?_, ?_, ?_, ?_, ?_, ?_, trivial⟩ ?_
  · exact fun ac W hL he => stepOk_want rfl (op_move rfl (he.keep (.tmp 3) (by kernel_rfl)))
  · exact fun ac W hL he => stepOk_want rfl (op_binOp rfl (he.get 0 6 (by kernel_rfl) rfl) rfl rfl (H1.out W) rfl)
  · exact fun ac W hL he => stepOk_want rfl (op_move rfl (he.get 1 7 (by kernel_rfl) rfl))
  · exact fun ac W hL he => stepOk_yes (j := 2) (t := 8) (b := false) rfl rfl (he.get 2 8 (by kernel_rfl) rfl) (op_move rfl (he.keep (.tmp 3) (by kernel_rfl)))
  · exact fun ac W hL he => stepOk_yes (j := 2) (t := 8) (b := false) rfl rfl (he.get 2 8 (by kernel_rfl) rfl) (op_binOp rfl (he.get 3 9 (by kernel_rfl) rfl) rfl rfl (H2.out W) rfl)
  · exact fun ac W hL he => stepOk_want rfl (op_pick (b := false) rfl (he.get 2 8 (by kernel_rfl) rfl) (he.get 4 10 (by kernel_rfl) rfl))
  · exact fun ac W hL he => stepOk_want rfl (op_move rfl (he.get 5 11 (by kernel_rfl) rfl))
  · exact fun ac W hL he => stepOk_yes (j := 6) (t := 12) (b := false) rfl rfl (he.get 6 12 (by kernel_rfl) rfl) (op_load rfl (he.keep (.tmp 1) (by kernel_rfl)) (loadSaid hs (k1.later hL)) rfl)
  · exact fun ac W hL he => stepOk_yes (j := 6) (t := 12) (b := false) rfl rfl (he.get 6 12 (by kernel_rfl) rfl) (op_load rfl (he.keep (.tmp 1) (by kernel_rfl)) (loadSaid hs (k1.later hL)) rfl)
  · intro ac W hL he; refine stepOk_yes (j := 6) (t := 12) (b := false) rfl rfl (he.get 6 12 (by kernel_rfl) rfl) ?_; have e0 : ac.eval (.tmp 14) = .agg (saidC s) := (he.get 8 14 (by kernel_rfl) rfl); exact op_callF (vs := #[.agg (saidC s)]) rfl (by simp only [List.map_toArray, List.map_cons, List.map_nil, e0]) (enters_of Tryz.func28 (by kernel_rfl) rfl) (((HNM.out W)).mono fun e W' ⟨he', hb⟩ => ⟨_, he', hb, rfl⟩)
  · exact fun ac W hL he => stepOk_yes (j := 6) (t := 12) (b := false) rfl rfl (he.get 6 12 (by kernel_rfl) rfl) (op_binOp rfl (he.get 7 13 (by kernel_rfl) rfl) (he.get 9 15 (by kernel_rfl) rfl) (by kernel_rfl) (HNQ.out W) rfl)
  · exact fun ac W hL he => stepOk_want rfl (op_pick (b := false) rfl (he.get 6 12 (by kernel_rfl) rfl) (he.get 10 16 (by kernel_rfl) rfl))
  · exact fun ac W hL he => stepOk_want rfl (op_move rfl (he.get 11 17 (by kernel_rfl) rfl))
  · exact fun ac W hL he => stepOk_yes (j := 12) (t := 18) (b := false) rfl rfl (he.get 12 18 (by kernel_rfl) rfl) (op_fieldAddr rfl (he.keep (.tmp 1) (by kernel_rfl)) (fieldSd 10 296 (by decide)) rfl)
  · exact fun ac W hL he => stepOk_yes (j := 12) (t := 18) (b := false) rfl rfl (he.get 12 18 (by kernel_rfl) rfl) (op_load rfl (he.get 13 19 (by kernel_rfl) rfl) (loadSaidN hs (k1.later hL) 7 (by decide)) rfl)
  · intro ac W hL he; refine stepOk_yes (j := 12) (t := 18) (b := false) rfl rfl (he.get 12 18 (by kernel_rfl) rfl) ?_; have e0 : ac.eval (.tmp 20) = .int .i64 (s.n 7) := (he.get 14 20 (by kernel_rfl) rfl); exact op_callF (vs := #[.int .i64 (s.n 7)]) rfl (by simp only [List.map_toArray, List.map_cons, List.map_nil, e0]) (enters_of Tryz.func29 (by kernel_rfl) rfl) (((H4.out W)).mono fun e W' ⟨hw', he'⟩ => ⟨_, he', hw' ▸ Later.refl _, rfl⟩)
  · exact fun ac W hL he => stepOk_yes (j := 12) (t := 18) (b := false) rfl rfl (he.get 12 18 (by kernel_rfl) rfl) (op_not rfl (he.get 15 21 (by kernel_rfl) rfl) rfl)
  · exact fun ac W hL he => stepOk_want rfl (op_pick (b := false) rfl (he.get 12 18 (by kernel_rfl) rfl) (he.get 16 22 (by kernel_rfl) rfl))
  · exact fun ac W hL he => stepOk_want rfl (op_move rfl (he.get 17 23 (by kernel_rfl) rfl))
  · exact fun ac W hL he => stepOk_yes (j := 18) (t := 24) (b := false) rfl rfl (he.get 18 24 (by kernel_rfl) rfl) (op_fieldAddr rfl (he.keep (.tmp 1) (by kernel_rfl)) (fieldSd 11 297 (by decide)) rfl)
  · exact fun ac W hL he => stepOk_yes (j := 18) (t := 24) (b := false) rfl rfl (he.get 18 24 (by kernel_rfl) rfl) (op_load rfl (he.get 19 25 (by kernel_rfl) rfl) (loadSaidN hs (k1.later hL) 8 (by decide)) rfl)
  · intro ac W hL he; refine stepOk_yes (j := 18) (t := 24) (b := false) rfl rfl (he.get 18 24 (by kernel_rfl) rfl) ?_; have e0 : ac.eval (.tmp 26) = .int .i64 (s.n 8) := (he.get 20 26 (by kernel_rfl) rfl); exact op_callF (vs := #[.int .i64 (s.n 8)]) rfl (by simp only [List.map_toArray, List.map_cons, List.map_nil, e0]) (enters_of Tryz.func29 (by kernel_rfl) rfl) (((H5.out W)).mono fun e W' ⟨hw', he'⟩ => ⟨_, he', hw' ▸ Later.refl _, rfl⟩)
  · exact fun ac W hL he => stepOk_yes (j := 18) (t := 24) (b := false) rfl rfl (he.get 18 24 (by kernel_rfl) rfl) (op_not rfl (he.get 21 27 (by kernel_rfl) rfl) rfl)
  · exact fun ac W hL he => stepOk_want rfl (op_pick (b := false) rfl (he.get 18 24 (by kernel_rfl) rfl) (he.get 22 28 (by kernel_rfl) rfl))
  · exact fun ac W hL he => stepOk_want rfl (op_move rfl (he.get 23 29 (by kernel_rfl) rfl))
  · exact fun ac W hL he => stepOk_yes (j := 24) (t := 30) (b := false) rfl rfl (he.get 24 30 (by kernel_rfl) rfl) (op_fieldAddr rfl (he.keep (.tmp 1) (by kernel_rfl)) (fieldSd 12 298 (by decide)) rfl)
  · exact fun ac W hL he => stepOk_yes (j := 24) (t := 30) (b := false) rfl rfl (he.get 24 30 (by kernel_rfl) rfl) (op_load rfl (he.get 25 31 (by kernel_rfl) rfl) (loadSaidN hs (k1.later hL) 9 (by decide)) rfl)
  · intro ac W hL he; refine stepOk_yes (j := 24) (t := 30) (b := false) rfl rfl (he.get 24 30 (by kernel_rfl) rfl) ?_; have e0 : ac.eval (.tmp 32) = .int .i64 (s.n 9) := (he.get 26 32 (by kernel_rfl) rfl); exact op_callF (vs := #[.int .i64 (s.n 9)]) rfl (by simp only [List.map_toArray, List.map_cons, List.map_nil, e0]) (enters_of Tryz.func29 (by kernel_rfl) rfl) (((H6.out W)).mono fun e W' ⟨hw', he'⟩ => ⟨_, he', hw' ▸ Later.refl _, rfl⟩)
  · exact fun ac W hL he => stepOk_yes (j := 24) (t := 30) (b := false) rfl rfl (he.get 24 30 (by kernel_rfl) rfl) (op_not rfl (he.get 27 33 (by kernel_rfl) rfl) rfl)
  · exact fun ac W hL he => stepOk_want rfl (op_pick (b := false) rfl (he.get 24 30 (by kernel_rfl) rfl) (he.get 28 34 (by kernel_rfl) rfl))
  · exact fun ac W hL he => stepOk_want rfl (op_move rfl (he.get 29 35 (by kernel_rfl) rfl))
  · exact fun ac W hL he => stepOk_yes (j := 30) (t := 36) (b := false) rfl rfl (he.get 30 36 (by kernel_rfl) rfl) (op_fieldAddr rfl (he.keep (.tmp 1) (by kernel_rfl)) (fieldSd 13 299 (by decide)) rfl)
  · exact fun ac W hL he => stepOk_yes (j := 30) (t := 36) (b := false) rfl rfl (he.get 30 36 (by kernel_rfl) rfl) (op_load rfl (he.get 31 37 (by kernel_rfl) rfl) (loadSaidN hs (k1.later hL) 10 (by decide)) rfl)
  · intro ac W hL he; refine stepOk_yes (j := 30) (t := 36) (b := false) rfl rfl (he.get 30 36 (by kernel_rfl) rfl) ?_; have e0 : ac.eval (.tmp 38) = .int .i64 (s.n 10) := (he.get 32 38 (by kernel_rfl) rfl); exact op_callF (vs := #[.int .i64 (s.n 10)]) rfl (by simp only [List.map_toArray, List.map_cons, List.map_nil, e0]) (enters_of Tryz.func29 (by kernel_rfl) rfl) (((H7.out W)).mono fun e W' ⟨hw', he'⟩ => ⟨_, he', hw' ▸ Later.refl _, rfl⟩)
  · exact fun ac W hL he => stepOk_yes (j := 30) (t := 36) (b := false) rfl rfl (he.get 30 36 (by kernel_rfl) rfl) (op_not rfl (he.get 33 39 (by kernel_rfl) rfl) rfl)
  · exact fun ac W hL he => stepOk_want rfl (op_pick (b := false) rfl (he.get 30 36 (by kernel_rfl) rfl) (he.get 34 40 (by kernel_rfl) rfl))
  · exact fun ac W hL he => stepOk_want rfl (op_move rfl (he.get 35 41 (by kernel_rfl) rfl))
  · exact fun ac W hL he => stepOk_no rfl rfl (he.get 36 42 (by kernel_rfl) rfl) (by decide) rfl
  · exact fun ac W hL he => stepOk_no rfl rfl (he.get 36 42 (by kernel_rfl) rfl) (by decide) rfl
  · exact fun ac W hL he => stepOk_no rfl rfl (he.get 36 42 (by kernel_rfl) rfl) (by decide) rfl
  · exact fun ac W hL he => stepOk_no rfl rfl (he.get 36 42 (by kernel_rfl) rfl) (by decide) rfl
  · exact fun ac W hL he => stepOk_want rfl (op_pick (b := true) rfl (he.get 36 42 (by kernel_rfl) rfl) rfl)
  intro xs W hL hxs
  have h41 : xs 41 = .bool true := hxs 41 (by decide)
  clear hxs
  simp only [putL, Nat.reduceAdd, Act.put, List.setIfInBounds_toArray, List.set_cons_succ, List.set_cons_zero, h41]
  clear h41
  go_wp2_with fail
  go_ret
  exact ⟨rfl, hb.trans (hL.below.mono hb.size)⟩
set_option maxRecDepth 100000 in
set_option maxHeartbeats 2000000 in
theorem rright8 (s : Said) (hs : s.wf) (H1 : Hid (∀ W, (binOp .lss 3 (.int .i64 s.kind) (.int .i64 1)).run Tryz.prog W = .ok (.bool false) W)) (H2 : Hid (∀ W, (binOp .gtr 3 (.int .i64 s.kind) (.int .i64 14)).run Tryz.prog W = .ok (.bool false) W)) (HNM : Hid (∀ W, Calls Tryz.prog 28 #[.agg (saidC s)] W fun e w' => e = .returned (.agg (saidC (nmd s s.kind))) ∧ Later W w')) (HNQ : Hid (∀ W, (binOp .neq 29 (.agg (saidC s)) (.agg (saidC (nmd s s.kind)))).run Tryz.prog W = .ok (.bool false) W)) (H4 : Hid (∀ W, Calls Tryz.prog 29 #[.int .i64 (s.n 7)] W fun e w' => w' = W ∧ e = .returned (.bool true))) (H5 : Hid (∀ W, Calls Tryz.prog 29 #[.int .i64 (s.n 8)] W fun e w' => w' = W ∧ e = .returned (.bool true))) (H6 : Hid (∀ W, Calls Tryz.prog 29 #[.int .i64 (s.n 9)] W fun e w' => w' = W ∧ e = .returned (.bool true))) (H7 : Hid (∀ W, Calls Tryz.prog 29 #[.int .i64 (s.n 10)] W fun e w' => w' = W ∧ e = .returned (.bool true))) (H8 : Hid (∀ W, Calls Tryz.prog 30 #[.int .i64 (s.n 6)] W fun e w' => w' = W ∧ e = .returned (.bool false))) (w : World) : Calls Tryz.prog 11 #[.agg (saidC s)] w fun e w' => e = .returned (.bool false) ∧ Later w w' := by
  have k1 := Row.new w 29 (saidC s)
  have hbx := boxSaid hs w
  have hb := below_new w (.cells (saidC s) 29)
  go_enter Tryz.func11, Tryz.ntmps11
  go_upto_region 1 with fail
  obtain ⟨g, hg⟩ : ∃ q, q = w.heap.size := ⟨_, rfl⟩
  rw [← hg] at k1 ⊢
  clear hbx hg
  generalize w.alloc (.cells (saidC s) 29) = w1 at *
  have c0 : w1.cell? ⟨g, 0, none⟩ = some (.int .i64 s.kind) := (k1.cell 0).trans (saidC_kind hs)
  go_upto_region 2 with fail
  clear c0
  refine (wpIn_wide (n := 0)).1 ?_
  refine wpIn_region_vals wide_wide [Pr.eq (.int .i64 s.kind), Pr.eq (.bool false), Pr.eq (.bool false), Pr.eq (.int .i64 s.kind), Pr.eq (.bool false), Pr.eq (.bool false), Pr.eq (.bool false), Pr.eq (.agg (saidC s)), Pr.eq (.agg (saidC s)), Pr.eq (.agg (saidC (nmd s s.kind))), Pr.eq (.bool false), Pr.eq (.bool false), Pr.eq (.bool false), Pr.eq (.pointer (some ⟨g, offN 7, none⟩)), Pr.eq (.int .i64 (s.n 7)), Pr.eq (.bool true), Pr.eq (.bool false), Pr.eq (.bool false), Pr.eq (.bool false), Pr.eq (.pointer (some ⟨g, offN 8, none⟩)), Pr.eq (.int .i64 (s.n 8)), Pr.eq (.bool true), Pr.eq (.bool false), Pr.eq (.bool false), Pr.eq (.bool false), Pr.eq (.pointer (some ⟨g, offN 9, none⟩)), Pr.eq (.int .i64 (s.n 9)), Pr.eq (.bool true), Pr.eq (.bool false), Pr.eq (.bool false), Pr.eq (.bool false), Pr.eq (.pointer (some ⟨g, offN 10, none⟩)), Pr.eq (.int .i64 (s.n 10)), Pr.eq (.bool true), Pr.eq (.bool false), Pr.eq (.bool false), Pr.eq (.bool false), Pr.eq (.pointer (some ⟨g, offN 6, none⟩)), Pr.eq (.int .i64 (s.n 6)), Pr.eq (.bool false), Pr.eq (.bool true), Pr.eq (.bool true)] (by kernel_rfl) (by kernel_rfl) (by kernel_rfl) (by kernel_rfl) (by kernel_rfl) ⟨?_, ?_, ?_, ?_, ?_, ?_, ?_, ?_, ?_, ?_, ?_, ?_, ?_, ?_, ?_, ?_, ?_, ?_, ?_, ?_, ?_, ?_, ?_, ?_, ?_, ?_, ?_, ?_, ?_, ?_, ?_, ?_, ?_, ?_, ?_, ?_, ?_, ?_, ?_, ?_, ?_, ?_, trivial⟩ ?_
  · exact fun ac W hL he => stepOk_want rfl (op_move rfl (he.keep (.tmp 3) (by kernel_rfl)))
  · exact fun ac W hL he => stepOk_want rfl (op_binOp rfl (he.get 0 6 (by kernel_rfl) rfl) rfl rfl (H1.out W) rfl)
  · exact fun ac W hL he => stepOk_want rfl (op_move rfl (he.get 1 7 (by kernel_rfl) rfl))
  · exact fun ac W hL he => stepOk_yes (j := 2) (t := 8) (b := false) rfl rfl (he.get 2 8 (by kernel_rfl) rfl) (op_move rfl (he.keep (.tmp 3) (by kernel_rfl)))
  · exact fun ac W hL he => stepOk_yes (j := 2) (t := 8) (b := false) rfl rfl (he.get 2 8 (by kernel_rfl) rfl) (op_binOp rfl (he.get 3 9 (by kernel_rfl) rfl) rfl rfl (H2.out W) rfl)
  · exact fun ac W hL he => stepOk_want rfl (op_pick (b := false) rfl (he.get 2 8 (by kernel_rfl) rfl) (he.get 4 10 (by kernel_rfl) rfl))
  · exact fun ac W hL he => stepOk_want rfl (op_move rfl (he.get 5 11 (by kernel_rfl) rfl))
  · exact fun ac W hL he => stepOk_yes (j := 6) (t := 12) (b := false) rfl rfl (he.get 6 12 (by kernel_rfl) rfl) (op_load rfl (he.keep (.tmp 1) (by kernel_rfl)) (loadSaid hs (k1.later hL)) rfl)
  · exact fun ac W hL he => stepOk_yes (j := 6) (t := 12) (b := false) rfl rfl (he.get 6 12 (by kernel_rfl) rfl) (op_load rfl (he.keep (.tmp 1) (by kernel_rfl)) (loadSaid hs (k1.later hL)) rfl)
  · intro ac W hL he; refine stepOk_yes (j := 6) (t := 12) (b := false) rfl rfl (he.get 6 12 (by kernel_rfl) rfl) ?_; have e0 : ac.eval (.tmp 14) = .agg (saidC s) := (he.get 8 14 (by kernel_rfl) rfl); exact op_callF (vs := #[.agg (saidC s)]) rfl (by simp only [List.map_toArray, List.map_cons, List.map_nil, e0]) (enters_of Tryz.func28 (by kernel_rfl) rfl) (((HNM.out W)).mono fun e W' ⟨he', hb⟩ => ⟨_, he', hb, rfl⟩)
  · exact fun ac W hL he => stepOk_yes (j := 6) (t := 12) (b := false) rfl rfl (he.get 6 12 (by kernel_rfl) rfl) (op_binOp rfl (he.get 7 13 (by kernel_rfl) rfl) (he.get 9 15 (by kernel_rfl) rfl) (by kernel_rfl) (HNQ.out W) rfl)
  · exact fun ac W hL he => stepOk_want rfl (op_pick (b := false) rfl (he.get 6 12 (by kernel_rfl) rfl) (he.get 10 16 (by kernel_rfl) rfl))
  · exact fun ac W hL he => stepOk_want rfl (op_move rfl (he.get 11 17 (by kernel_rfl) rfl))
  · exact fun ac W hL he => stepOk_yes (j := 12) (t := 18) (b := false) rfl rfl (he.get 12 18 (by kernel_rfl) rfl) (op_fieldAddr rfl (he.keep (.tmp 1) (by kernel_rfl)) (fieldSd 10 296 (by decide)) rfl)
  · exact fun ac W hL he => stepOk_yes (j := 12) (t := 18) (b := false) rfl rfl (he.get 12 18 (by kernel_rfl) rfl) (op_load rfl (he.get 13 19 (by kernel_rfl) rfl) (loadSaidN hs (k1.later hL) 7 (by decide)) rfl)
  · intro ac W hL he; refine stepOk_yes (j := 12) (t := 18) (b := false) rfl rfl (he.get 12 18 (by kernel_rfl) rfl) ?_; have e0 : ac.eval (.tmp 20) = .int .i64 (s.n 7) := (he.get 14 20 (by kernel_rfl) rfl); exact op_callF (vs := #[.int .i64 (s.n 7)]) rfl (by simp only [List.map_toArray, List.map_cons, List.map_nil, e0]) (enters_of Tryz.func29 (by kernel_rfl) rfl) (((H4.out W)).mono fun e W' ⟨hw', he'⟩ => ⟨_, he', hw' ▸ Later.refl _, rfl⟩)
  · exact fun ac W hL he => stepOk_yes (j := 12) (t := 18) (b := false) rfl rfl (he.get 12 18 (by kernel_rfl) rfl) (op_not rfl (he.get 15 21 (by kernel_rfl) rfl) rfl)
  · exact fun ac W hL he => stepOk_want rfl (op_pick (b := false) rfl (he.get 12 18 (by kernel_rfl) rfl) (he.get 16 22 (by kernel_rfl) rfl))
  · exact fun ac W hL he => stepOk_want rfl (op_move rfl (he.get 17 23 (by kernel_rfl) rfl))
  · exact fun ac W hL he => stepOk_yes (j := 18) (t := 24) (b := false) rfl rfl (he.get 18 24 (by kernel_rfl) rfl) (op_fieldAddr rfl (he.keep (.tmp 1) (by kernel_rfl)) (fieldSd 11 297 (by decide)) rfl)
  · exact fun ac W hL he => stepOk_yes (j := 18) (t := 24) (b := false) rfl rfl (he.get 18 24 (by kernel_rfl) rfl) (op_load rfl (he.get 19 25 (by kernel_rfl) rfl) (loadSaidN hs (k1.later hL) 8 (by decide)) rfl)
  · intro ac W hL he; refine stepOk_yes (j := 18) (t := 24) (b := false) rfl rfl (he.get 18 24 (by kernel_rfl) rfl) ?_; have e0 : ac.eval (.tmp 26) = .int .i64 (s.n 8) := (he.get 20 26 (by kernel_rfl) rfl); exact op_callF (vs := #[.int .i64 (s.n 8)]) rfl (by simp only [List.map_toArray, List.map_cons, List.map_nil, e0]) (enters_of Tryz.func29 (by kernel_rfl) rfl) (((H5.out W)).mono fun e W' ⟨hw', he'⟩ => ⟨_, he', hw' ▸ Later.refl _, rfl⟩)
  · exact fun ac W hL he => stepOk_yes (j := 18) (t := 24) (b := false) rfl rfl (he.get 18 24 (by kernel_rfl) rfl) (op_not rfl (he.get 21 27 (by kernel_rfl) rfl) rfl)
  · exact fun ac W hL he => stepOk_want rfl (op_pick (b := false) rfl (he.get 18 24 (by kernel_rfl) rfl) (he.get 22 28 (by kernel_rfl) rfl))
  · exact fun ac W hL he => stepOk_want rfl (op_move rfl (he.get 23 29 (by kernel_rfl) rfl))
  · exact fun ac W hL he => stepOk_yes (j := 24) (t := 30) (b := false) rfl rfl (he.get 24 30 (by kernel_rfl) rfl) (op_fieldAddr rfl (he.keep (.tmp 1) (by kernel_rfl)) (fieldSd 12 298 (by decide)) rfl)
  · exact fun ac W hL he => stepOk_yes (j := 24) (t := 30) (b := false) rfl rfl (he.get 24 30 (by kernel_rfl) rfl) (op_load rfl (he.get 25 31 (by kernel_rfl) rfl) (loadSaidN hs (k1.later hL) 9 (by decide)) rfl)
  · intro ac W hL he; refine stepOk_yes (j := 24) (t := 30) (b := false) rfl rfl (he.get 24 30 (by kernel_rfl) rfl) ?_; have e0 : ac.eval (.tmp 32) = .int .i64 (s.n 9) := (he.get 26 32 (by kernel_rfl) rfl); exact op_callF (vs := #[.int .i64 (s.n 9)]) rfl (by simp only [List.map_toArray, List.map_cons, List.map_nil, e0]) (enters_of Tryz.func29 (by kernel_rfl) rfl) (((H6.out W)).mono fun e W' ⟨hw', he'⟩ => ⟨_, he', hw' ▸ Later.refl _, rfl⟩)
  · exact fun ac W hL he => stepOk_yes (j := 24) (t := 30) (b := false) rfl rfl (he.get 24 30 (by kernel_rfl) rfl) (op_not rfl (he.get 27 33 (by kernel_rfl) rfl) rfl)
  · exact fun ac W hL he => stepOk_want rfl (op_pick (b := false) rfl (he.get 24 30 (by kernel_rfl) rfl) (he.get 28 34 (by kernel_rfl) rfl))
  · exact fun ac W hL he => stepOk_want rfl (op_move rfl (he.get 29 35 (by kernel_rfl) rfl))
  · exact fun ac W hL he => stepOk_yes (j := 30) (t := 36) (b := false) rfl rfl (he.get 30 36 (by kernel_rfl) rfl) (op_fieldAddr rfl (he.keep (.tmp 1) (by kernel_rfl)) (fieldSd 13 299 (by decide)) rfl)
  · exact fun ac W hL he => stepOk_yes (j := 30) (t := 36) (b := false) rfl rfl (he.get 30 36 (by kernel_rfl) rfl) (op_load rfl (he.get 31 37 (by kernel_rfl) rfl) (loadSaidN hs (k1.later hL) 10 (by decide)) rfl)
  · intro ac W hL he; refine stepOk_yes (j := 30) (t := 36) (b := false) rfl rfl (he.get 30 36 (by kernel_rfl) rfl) ?_; have e0 : ac.eval (.tmp 38) = .int .i64 (s.n 10) := (he.get 32 38 (by kernel_rfl) rfl); exact op_callF (vs := #[.int .i64 (s.n 10)]) rfl (by simp only [List.map_toArray, List.map_cons, List.map_nil, e0]) (enters_of Tryz.func29 (by kernel_rfl) rfl) (((H7.out W)).mono fun e W' ⟨hw', he'⟩ => ⟨_, he', hw' ▸ Later.refl _, rfl⟩)
  · exact fun ac W hL he => stepOk_yes (j := 30) (t := 36) (b := false) rfl rfl (he.get 30 36 (by kernel_rfl) rfl) (op_not rfl (he.get 33 39 (by kernel_rfl) rfl) rfl)
  · exact fun ac W hL he => stepOk_want rfl (op_pick (b := false) rfl (he.get 30 36 (by kernel_rfl) rfl) (he.get 34 40 (by kernel_rfl) rfl))
  · exact fun ac W hL he => stepOk_want rfl (op_move rfl (he.get 35 41 (by kernel_rfl) rfl))
  · exact fun ac W hL he => stepOk_yes (j := 36) (t := 42) (b := false) rfl rfl (he.get 36 42 (by kernel_rfl) rfl) (op_fieldAddr rfl (he.keep (.tmp 1) (by kernel_rfl)) (fieldSd 3 103 (by decide)) rfl)
  · exact fun ac W hL he => stepOk_yes (j := 36) (t := 42) (b := false) rfl rfl (he.get 36 42 (by kernel_rfl) rfl) (op_load rfl (he.get 37 43 (by kernel_rfl) rfl) (loadSaidN hs (k1.later hL) 6 (by decide)) rfl)
  · intro ac W hL he; refine stepOk_yes (j := 36) (t := 42) (b := false) rfl rfl (he.get 36 42 (by kernel_rfl) rfl) ?_; have e0 : ac.eval (.tmp 44) = .int .i64 (s.n 6) := (he.get 38 44 (by kernel_rfl) rfl); exact op_callF (vs := #[.int .i64 (s.n 6)]) rfl (by simp only [List.map_toArray, List.map_cons, List.map_nil, e0]) (enters_of Tryz.func30 (by kernel_rfl) rfl) (((H8.out W)).mono fun e W' ⟨hw', he'⟩ => ⟨_, he', hw' ▸ Later.refl _, rfl⟩)
  · exact fun ac W hL he => stepOk_yes (j := 36) (t := 42) (b := false) rfl rfl (he.get 36 42 (by kernel_rfl) rfl) (op_not rfl (he.get 39 45 (by kernel_rfl) rfl) rfl)
  · exact fun ac W hL he => stepOk_want rfl (op_pick (b := false) rfl (he.get 36 42 (by kernel_rfl) rfl) (he.get 40 46 (by kernel_rfl) rfl))
  intro xs W hL hxs
  have h41 : xs 41 = .bool true := hxs 41 (by decide)
  clear hxs
  simp only [putL, Nat.reduceAdd, Act.put, List.setIfInBounds_toArray, List.set_cons_succ, List.set_cons_zero, h41]
  clear h41
  go_wp2_with fail
  go_ret
  exact ⟨rfl, hb.trans (hL.below.mono hb.size)⟩
set_option maxRecDepth 100000 in
set_option maxHeartbeats 2000000 in
theorem rright9 (s : Said) (hs : s.wf) (H1 : Hid (∀ W, (binOp .lss 3 (.int .i64 s.kind) (.int .i64 1)).run Tryz.prog W = .ok (.bool false) W)) (H2 : Hid (∀ W, (binOp .gtr 3 (.int .i64 s.kind) (.int .i64 14)).run Tryz.prog W = .ok (.bool false) W)) (HNM : Hid (∀ W, Calls Tryz.prog 28 #[.agg (saidC s)] W fun e w' => e = .returned (.agg (saidC (nmd s s.kind))) ∧ Later W w')) (HNQ : Hid (∀ W, (binOp .neq 29 (.agg (saidC s)) (.agg (saidC (nmd s s.kind)))).run Tryz.prog W = .ok (.bool false) W)) (H4 : Hid (∀ W, Calls Tryz.prog 29 #[.int .i64 (s.n 7)] W fun e w' => w' = W ∧ e = .returned (.bool true))) (H5 : Hid (∀ W, Calls Tryz.prog 29 #[.int .i64 (s.n 8)] W fun e w' => w' = W ∧ e = .returned (.bool true))) (H6 : Hid (∀ W, Calls Tryz.prog 29 #[.int .i64 (s.n 9)] W fun e w' => w' = W ∧ e = .returned (.bool true))) (H7 : Hid (∀ W, Calls Tryz.prog 29 #[.int .i64 (s.n 10)] W fun e w' => w' = W ∧ e = .returned (.bool true))) (H8 : Hid (∀ W, Calls Tryz.prog 30 #[.int .i64 (s.n 6)] W fun e w' => w' = W ∧ e = .returned (.bool true))) (hk : 1 ≤ s.kind ∧ s.kind ≤ 14) (hm : s.route.length ≤ 9223372036854775807) (w : World) : Calls Tryz.prog 11 #[.agg (saidC s)] w fun e w' => e = .returned (.bool (specialR s.kind s)) ∧ Later w w' := by
  have k1 := Row.new w 29 (saidC s)
  have hbx := boxSaid hs w
  have hb := below_new w (.cells (saidC s) 29)
  go_enter Tryz.func11, Tryz.ntmps11
  go_upto_region 1 with fail
  obtain ⟨g, hg⟩ : ∃ q, q = w.heap.size := ⟨_, rfl⟩
  rw [← hg] at k1 ⊢
  clear hbx hg
  generalize w.alloc (.cells (saidC s) 29) = w1 at *
  have c0 : w1.cell? ⟨g, 0, none⟩ = some (.int .i64 s.kind) := (k1.cell 0).trans (saidC_kind hs)
  go_upto_region 2 with fail
  clear c0
  refine (wpIn_wide (n := 0)).1 ?_
  refine wpIn_region_vals wide_wide [Pr.eq (.int .i64 s.kind), Pr.eq (.bool false), Pr.eq (.bool false), Pr.eq (.int .i64 s.kind), Pr.eq (.bool false), Pr.eq (.bool false), Pr.eq (.bool false), Pr.eq (.agg (saidC s)), Pr.eq (.agg (saidC s)), Pr.eq (.agg (saidC (nmd s s.kind))), Pr.eq (.bool false), Pr.eq (.bool false), Pr.eq (.bool false), Pr.eq (.pointer (some ⟨g, offN 7, none⟩)), Pr.eq (.int .i64 (s.n 7)), Pr.eq (.bool true), Pr.eq (.bool false), Pr.eq (.bool false), Pr.eq (.bool false), Pr.eq (.pointer (some ⟨g, offN 8, none⟩)), Pr.eq (.int .i64 (s.n 8)), Pr.eq (.bool true), Pr.eq (.bool false), Pr.eq (.bool false), Pr.eq (.bool false), Pr.eq (.pointer (some ⟨g, offN 9, none⟩)), Pr.eq (.int .i64 (s.n 9)), Pr.eq (.bool true), Pr.eq (.bool false), Pr.eq (.bool false), Pr.eq (.bool false), Pr.eq (.pointer (some ⟨g, offN 10, none⟩)), Pr.eq (.int .i64 (s.n 10)), Pr.eq (.bool true), Pr.eq (.bool false), Pr.eq (.bool false), Pr.eq (.bool false), Pr.eq (.pointer (some ⟨g, offN 6, none⟩)), Pr.eq (.int .i64 (s.n 6)), Pr.eq (.bool true), Pr.eq (.bool false), Pr.eq (.bool false)] (by kernel_rfl) (by kernel_rfl) (by kernel_rfl) (by kernel_rfl) (by kernel_rfl) ⟨?_, ?_, ?_, ?_, ?_, ?_, ?_, ?_, ?_, ?_, ?_, ?_, ?_, ?_, ?_, ?_, ?_, ?_, ?_, ?_, ?_, ?_, ?_, ?_, ?_, ?_, ?_, ?_, ?_, ?_, ?_, ?_, ?_, ?_, ?_, ?_, ?_, ?_, ?_, ?_, ?_, ?_, trivial⟩ ?_
  · exact fun ac W hL he => stepOk_want rfl (op_move rfl (he.keep (.tmp 3) (by kernel_rfl)))
  · exact fun ac W hL he => stepOk_want rfl (op_binOp rfl (he.get 0 6 (by kernel_rfl) rfl) rfl rfl (H1.out W) rfl)
  · exact fun ac W hL he => stepOk_want rfl (op_move rfl (he.get 1 7 (by kernel_rfl) rfl))
  · exact fun ac W hL he => stepOk_yes (j := 2) (t := 8) (b := false) rfl rfl (he.get 2 8 (by kernel_rfl) rfl) (op_move rfl (he.keep (.tmp 3) (by kernel_rfl)))
  · exact fun ac W hL he => stepOk_yes (j := 2) (t := 8) (b := false) rfl rfl (he.get 2 8 (by kernel_rfl) rfl) (op_binOp rfl (he.get 3 9 (by kernel_rfl) rfl) rfl rfl (H2.out W) rfl)
  · exact fun ac W hL he => stepOk_want rfl (op_pick (b := false) rfl (he.get 2 8 (by kernel_rfl) rfl) (he.get 4 10 (by kernel_rfl) rfl))
  · exact fun ac W hL he => stepOk_want rfl (op_move rfl (he.get 5 11 (by kernel_rfl) rfl))
  · exact fun ac W hL he => stepOk_yes (j := 6) (t := 12) (b := false) rfl rfl (he.get 6 12 (by kernel_rfl) rfl) (op_load rfl (he.keep (.tmp 1) (by kernel_rfl)) (loadSaid hs (k1.later hL)) rfl)
  · exact fun ac W hL he => stepOk_yes (j := 6) (t := 12) (b := false) rfl rfl (he.get 6 12 (by kernel_rfl) rfl) (op_load rfl (he.keep (.tmp 1) (by kernel_rfl)) (loadSaid hs (k1.later hL)) rfl)
  · intro ac W hL he; refine stepOk_yes (j := 6) (t := 12) (b := false) rfl rfl (he.get 6 12 (by kernel_rfl) rfl) ?_; have e0 : ac.eval (.tmp 14) = .agg (saidC s) := (he.get 8 14 (by kernel_rfl) rfl); exact op_callF (vs := #[.agg (saidC s)]) rfl (by simp only [List.map_toArray, List.map_cons, List.map_nil, e0]) (enters_of Tryz.func28 (by kernel_rfl) rfl) (((HNM.out W)).mono fun e W' ⟨he', hb⟩ => ⟨_, he', hb, rfl⟩)
  · exact fun ac W hL he => stepOk_yes (j := 6) (t := 12) (b := false) rfl rfl (he.get 6 12 (by kernel_rfl) rfl) (op_binOp rfl (he.get 7 13 (by kernel_rfl) rfl) (he.get 9 15 (by kernel_rfl) rfl) (by kernel_rfl) (HNQ.out W) rfl)
  · exact fun ac W hL he => stepOk_want rfl (op_pick (b := false) rfl (he.get 6 12 (by kernel_rfl) rfl) (he.get 10 16 (by kernel_rfl) rfl))
  · exact fun ac W hL he => stepOk_want rfl (op_move rfl (he.get 11 17 (by kernel_rfl) rfl))
  · exact fun ac W hL he => stepOk_yes (j := 12) (t := 18) (b := false) rfl rfl (he.get 12 18 (by kernel_rfl) rfl) (op_fieldAddr rfl (he.keep (.tmp 1) (by kernel_rfl)) (fieldSd 10 296 (by decide)) rfl)
  · exact fun ac W hL he => stepOk_yes (j := 12) (t := 18) (b := false) rfl rfl (he.get 12 18 (by kernel_rfl) rfl) (op_load rfl (he.get 13 19 (by kernel_rfl) rfl) (loadSaidN hs (k1.later hL) 7 (by decide)) rfl)
  · intro ac W hL he; refine stepOk_yes (j := 12) (t := 18) (b := false) rfl rfl (he.get 12 18 (by kernel_rfl) rfl) ?_; have e0 : ac.eval (.tmp 20) = .int .i64 (s.n 7) := (he.get 14 20 (by kernel_rfl) rfl); exact op_callF (vs := #[.int .i64 (s.n 7)]) rfl (by simp only [List.map_toArray, List.map_cons, List.map_nil, e0]) (enters_of Tryz.func29 (by kernel_rfl) rfl) (((H4.out W)).mono fun e W' ⟨hw', he'⟩ => ⟨_, he', hw' ▸ Later.refl _, rfl⟩)
  · exact fun ac W hL he => stepOk_yes (j := 12) (t := 18) (b := false) rfl rfl (he.get 12 18 (by kernel_rfl) rfl) (op_not rfl (he.get 15 21 (by kernel_rfl) rfl) rfl)
  · exact fun ac W hL he => stepOk_want rfl (op_pick (b := false) rfl (he.get 12 18 (by kernel_rfl) rfl) (he.get 16 22 (by kernel_rfl) rfl))
  · exact fun ac W hL he => stepOk_want rfl (op_move rfl (he.get 17 23 (by kernel_rfl) rfl))
  · exact fun ac W hL he => stepOk_yes (j := 18) (t := 24) (b := false) rfl rfl (he.get 18 24 (by kernel_rfl) rfl) (op_fieldAddr rfl (he.keep (.tmp 1) (by kernel_rfl)) (fieldSd 11 297 (by decide)) rfl)
  · exact fun ac W hL he => stepOk_yes (j := 18) (t := 24) (b := false) rfl rfl (he.get 18 24 (by kernel_rfl) rfl) (op_load rfl (he.get 19 25 (by kernel_rfl) rfl) (loadSaidN hs (k1.later hL) 8 (by decide)) rfl)
  · intro ac W hL he; refine stepOk_yes (j := 18) (t := 24) (b := false) rfl rfl (he.get 18 24 (by kernel_rfl) rfl) ?_; have e0 : ac.eval (.tmp 26) = .int .i64 (s.n 8) := (he.get 20 26 (by kernel_rfl) rfl); exact op_callF (vs := #[.int .i64 (s.n 8)]) rfl (by simp only [List.map_toArray, List.map_cons, List.map_nil, e0]) (enters_of Tryz.func29 (by kernel_rfl) rfl) (((H5.out W)).mono fun e W' ⟨hw', he'⟩ => ⟨_, he', hw' ▸ Later.refl _, rfl⟩)
  · exact fun ac W hL he => stepOk_yes (j := 18) (t := 24) (b := false) rfl rfl (he.get 18 24 (by kernel_rfl) rfl) (op_not rfl (he.get 21 27 (by kernel_rfl) rfl) rfl)
  · exact fun ac W hL he => stepOk_want rfl (op_pick (b := false) rfl (he.get 18 24 (by kernel_rfl) rfl) (he.get 22 28 (by kernel_rfl) rfl))
  · exact fun ac W hL he => stepOk_want rfl (op_move rfl (he.get 23 29 (by kernel_rfl) rfl))
  · exact fun ac W hL he => stepOk_yes (j := 24) (t := 30) (b := false) rfl rfl (he.get 24 30 (by kernel_rfl) rfl) (op_fieldAddr rfl (he.keep (.tmp 1) (by kernel_rfl)) (fieldSd 12 298 (by decide)) rfl)
  · exact fun ac W hL he => stepOk_yes (j := 24) (t := 30) (b := false) rfl rfl (he.get 24 30 (by kernel_rfl) rfl) (op_load rfl (he.get 25 31 (by kernel_rfl) rfl) (loadSaidN hs (k1.later hL) 9 (by decide)) rfl)
  · intro ac W hL he; refine stepOk_yes (j := 24) (t := 30) (b := false) rfl rfl (he.get 24 30 (by kernel_rfl) rfl) ?_; have e0 : ac.eval (.tmp 32) = .int .i64 (s.n 9) := (he.get 26 32 (by kernel_rfl) rfl); exact op_callF (vs := #[.int .i64 (s.n 9)]) rfl (by simp only [List.map_toArray, List.map_cons, List.map_nil, e0]) (enters_of Tryz.func29 (by kernel_rfl) rfl) (((H6.out W)).mono fun e W' ⟨hw', he'⟩ => ⟨_, he', hw' ▸ Later.refl _, rfl⟩)
  · exact fun ac W hL he => stepOk_yes (j := 24) (t := 30) (b := false) rfl rfl (he.get 24 30 (by kernel_rfl) rfl) (op_not rfl (he.get 27 33 (by kernel_rfl) rfl) rfl)
  · exact fun ac W hL he => stepOk_want rfl (op_pick (b := false) rfl (he.get 24 30 (by kernel_rfl) rfl) (he.get 28 34 (by kernel_rfl) rfl))
  · exact fun ac W hL he => stepOk_want rfl (op_move rfl (he.get 29 35 (by kernel_rfl) rfl))
  · exact fun ac W hL he => stepOk_yes (j := 30) (t := 36) (b := false) rfl rfl (he.get 30 36 (by kernel_rfl) rfl) (op_fieldAddr rfl (he.keep (.tmp 1) (by kernel_rfl)) (fieldSd 13 299 (by decide)) rfl)
  · exact fun ac W hL he => stepOk_yes (j := 30) (t := 36) (b := false) rfl rfl (he.get 30 36 (by kernel_rfl) rfl) (op_load rfl (he.get 31 37 (by kernel_rfl) rfl) (loadSaidN hs (k1.later hL) 10 (by decide)) rfl)
  · intro ac W hL he; refine stepOk_yes (j := 30) (t := 36) (b := false) rfl rfl (he.get 30 36 (by kernel_rfl) rfl) ?_; have e0 : ac.eval (.tmp 38) = .int .i64 (s.n 10) := (he.get 32 38 (by kernel_rfl) rfl); exact op_callF (vs := #[.int .i64 (s.n 10)]) rfl (by simp only [List.map_toArray, List.map_cons, List.map_nil, e0]) (enters_of Tryz.func29 (by kernel_rfl) rfl) (((H7.out W)).mono fun e W' ⟨hw', he'⟩ => ⟨_, he', hw' ▸ Later.refl _, rfl⟩)
  · exact fun ac W hL he => stepOk_yes (j := 30) (t := 36) (b := false) rfl rfl (he.get 30 36 (by kernel_rfl) rfl) (op_not rfl (he.get 33 39 (by kernel_rfl) rfl) rfl)
  · exact fun ac W hL he => stepOk_want rfl (op_pick (b := false) rfl (he.get 30 36 (by kernel_rfl) rfl) (he.get 34 40 (by kernel_rfl) rfl))
  · exact fun ac W hL he => stepOk_want rfl (op_move rfl (he.get 35 41 (by kernel_rfl) rfl))
  · exact fun ac W hL he => stepOk_yes (j := 36) (t := 42) (b := false) rfl rfl (he.get 36 42 (by kernel_rfl) rfl) (op_fieldAddr rfl (he.keep (.tmp 1) (by kernel_rfl)) (fieldSd 3 103 (by decide)) rfl)
  · exact fun ac W hL he => stepOk_yes (j := 36) (t := 42) (b := false) rfl rfl (he.get 36 42 (by kernel_rfl) rfl) (op_load rfl (he.get 37 43 (by kernel_rfl) rfl) (loadSaidN hs (k1.later hL) 6 (by decide)) rfl)
  · intro ac W hL he; refine stepOk_yes (j := 36) (t := 42) (b := false) rfl rfl (he.get 36 42 (by kernel_rfl) rfl) ?_; have e0 : ac.eval (.tmp 44) = .int .i64 (s.n 6) := (he.get 38 44 (by kernel_rfl) rfl); exact op_callF (vs := #[.int .i64 (s.n 6)]) rfl (by simp only [List.map_toArray, List.map_cons, List.map_nil, e0]) (enters_of Tryz.func30 (by kernel_rfl) rfl) (((H8.out W)).mono fun e W' ⟨hw', he'⟩ => ⟨_, he', hw' ▸ Later.refl _, rfl⟩)
  · exact fun ac W hL he => stepOk_yes (j := 36) (t := 42) (b := false) rfl rfl (he.get 36 42 (by kernel_rfl) rfl) (op_not rfl (he.get 39 45 (by kernel_rfl) rfl) rfl)
  · exact fun ac W hL he => stepOk_want rfl (op_pick (b := false) rfl (he.get 36 42 (by kernel_rfl) rfl) (he.get 40 46 (by kernel_rfl) rfl))
  intro xs W hL hxs
  have h41 : xs 41 = .bool false := hxs 41 (by decide)
  clear hxs
  simp only [putL, Nat.reduceAdd, Act.put, List.setIfInBounds_toArray, List.set_cons_succ, List.set_cons_zero, h41]
  clear h41
  have kW := k1.later hL
  clear H1 H2 HNM HNQ H4 H5 H6 H7 H8 k1
  have hK : s.kind = 1 ∨ s.kind = 2 ∨ s.kind = 3 ∨ s.kind = 4 ∨ s.kind = 5 ∨ s.kind = 6 ∨ s.kind = 7 ∨ s.kind = 8 ∨ s.kind = 9 ∨ s.kind = 10 ∨ s.kind = 11 ∨ s.kind = 12 ∨ s.kind = 13 ∨ s.kind = 14 := by omega
  clear hk
  rcases hK with h | h | h | h | h | h | h | h | h | h | h | h | h | h
  · rw [h]
    obtain ⟨b1, d1⟩ : ∃ b, rtB s = b := ⟨_, rfl⟩
    obtain ⟨b2, d2⟩ : ∃ b, decide (0 ≤ s.reserve) = b := ⟨_, rfl⟩
    obtain ⟨b3, d3⟩ : ∃ b, decide (s.reserve ≤ s.cap / 10) = b := ⟨_, rfl⟩
    obtain ⟨b4, d4⟩ : ∃ b, decide (s.amount ≤ s.cap - s.fee - s.reserve) = b := ⟨_, rfl⟩
    have hv : specialR s.kind s = (b1 && (b2 && (b3 && b4))) := by rw [h, ← d1, ← d2, ← d3, ← d4]; rfl
    have HV := Lib.hid hv
    have HT := Lib.hid (fun W => d1 ▸ refT11_any s hs W)
    have HLT := Lib.hid (loadSaidT hs kW)
    have HC := Lib.hid (fun (X : World) (hX : Later W X) (j : Nat) (hj : j < 12) => ((kW.later hX).cell _).trans (saidC_n hs j hj))
    have hbd : b1 = true → 1000 ≤ s.cap ∧ s.cap ≤ 1125899906842624 ∧ 0 ≤ s.fee ∧ s.fee ≤ 400 := fun e => by
      rw [e] at d1
      unfold rtB termsB at d1
      simp only [Bool.and_eq_true, decide_eq_true_eq] at d1
      obtain ⟨_, _, _, ⟨⟨⟨⟨⟨⟨⟨⟨⟨_, _⟩, h1⟩, h2⟩, _⟩, _⟩, h3⟩, h4⟩, _⟩, _⟩⟩ := d1
      exact ⟨h1, h2, h3, h4⟩
    clear hv d1 kW
    cases b1
    · clear hbd d2 d3 d4
      go_upto_region 6 with fail
      refine wp_region_lit ?_
      refine wpList_fieldA rfl 29 1 (.tmp 1) rfl (.pointer (some ⟨g, 0, none⟩)) rfl (fieldSd 1 1 (by decide)) ?_
      refine wpList_load rfl 27 (.tmp 51) rfl (.pointer (some ⟨g, 1, none⟩)) rfl HLT.out ?_
      go_wp2_with (first
        | (go_at_call 31; refine (HT.out _).mono ?_; rintro e w5 ⟨rfl, hL5⟩)
        | fail)
      go_ret
      exact ⟨by rw [← h, HV.out]; rfl, hb.trans ((hL.trans (hL5.below.mono hL.size)).mono hb.size)⟩
    obtain ⟨hc1, hc2, hf1, hf2⟩ := hbd rfl
    clear hbd
    cases b2
    · clear d3 d4
      go_upto_region 6 with fail
      refine wp_region_lit ?_
      refine wpList_fieldA rfl 29 1 (.tmp 1) rfl (.pointer (some ⟨g, 0, none⟩)) rfl (fieldSd 1 1 (by decide)) ?_
      refine wpList_load rfl 27 (.tmp 51) rfl (.pointer (some ⟨g, 1, none⟩)) rfl HLT.out ?_
      go_wp2_with (first
        | (go_at_call 31; refine (HT.out _).mono ?_; rintro e w5 ⟨rfl, hL5⟩; have c102 : w5.cell? ⟨g, 102, none⟩ = some (.int .i64 s.reserve) := HC.out w5 hL5 5 (by decide))
        | fail)
      go_ret
      exact ⟨by rw [← h, HV.out]; rfl, hb.trans ((hL.trans (hL5.below.mono hL.size)).mono hb.size)⟩
    cases b3
    · clear d4
      go_upto_region 6 with fail
      refine wp_region_lit ?_
      refine wpList_fieldA rfl 29 1 (.tmp 1) rfl (.pointer (some ⟨g, 0, none⟩)) rfl (fieldSd 1 1 (by decide)) ?_
      refine wpList_load rfl 27 (.tmp 51) rfl (.pointer (some ⟨g, 1, none⟩)) rfl HLT.out ?_
      go_wp2_with (first
        | (go_at_call 31; refine (HT.out _).mono ?_; rintro e w5 ⟨rfl, hL5⟩; have c102 : w5.cell? ⟨g, 102, none⟩ = some (.int .i64 s.reserve) := HC.out w5 hL5 5 (by decide); have c34 : w5.cell? ⟨g, 34, none⟩ = some (.int .i64 s.cap) := HC.out w5 hL5 1 (by decide))
        | fail)
      go_ret
      exact ⟨by rw [← h, HV.out]; rfl, hb.trans ((hL.trans (hL5.below.mono hL.size)).mono hb.size)⟩
    · have hr1 := of_decide_eq_true d2
      have hr2 := of_decide_eq_true d3
      go_upto_region 6 with fail
      refine wp_region_lit ?_
      refine wpList_fieldA rfl 29 1 (.tmp 1) rfl (.pointer (some ⟨g, 0, none⟩)) rfl (fieldSd 1 1 (by decide)) ?_
      refine wpList_load rfl 27 (.tmp 51) rfl (.pointer (some ⟨g, 1, none⟩)) rfl HLT.out ?_
      go_wp2_with (first
        | (go_at_call 31; refine (HT.out _).mono ?_; rintro e w5 ⟨rfl, hL5⟩; have c102 : w5.cell? ⟨g, 102, none⟩ = some (.int .i64 s.reserve) := HC.out w5 hL5 5 (by decide); have c34 : w5.cell? ⟨g, 34, none⟩ = some (.int .i64 s.cap) := HC.out w5 hL5 1 (by decide); have c103 : w5.cell? ⟨g, 103, none⟩ = some (.int .i64 s.amount) := HC.out w5 hL5 6 (by decide); have c36 : w5.cell? ⟨g, 36, none⟩ = some (.int .i64 s.fee) := HC.out w5 hL5 3 (by decide))
        | fail)
      go_ret
      exact ⟨by rw [← h, HV.out]; rfl, hb.trans ((hL.trans (hL5.below.mono hL.size)).mono hb.size)⟩
  · have HV : Hid (specialR s.kind s = true) := Lib.hid (by rw [h]; rfl)
    rw [h]
    go_wp2_with fail
    go_ret
    exact ⟨by rw [HV.out]; rfl, hb.trans (hL.below.mono hb.size)⟩
  · have HV : Hid (specialR s.kind s = decide (s.index < 24)) := Lib.hid (by rw [h]; rfl)
    rw [h]
    have c1 : W.cell? ⟨g, 298, none⟩ = some (.int .i64 s.index) := (kW.cell _).trans (saidC_n hs 9 (by decide))
    go_wp2_with fail
    go_ret
    exact ⟨by rw [HV.out]; rfl, hb.trans (hL.below.mono hb.size)⟩
  · have HV : Hid (specialR s.kind s = true) := Lib.hid (by rw [h]; rfl)
    rw [h]
    go_wp2_with fail
    go_ret
    exact ⟨by rw [HV.out]; rfl, hb.trans (hL.below.mono hb.size)⟩
  · have HV : Hid (specialR s.kind s = true) := Lib.hid (by rw [h]; rfl)
    rw [h]
    go_wp2_with fail
    go_ret
    exact ⟨by rw [HV.out]; rfl, hb.trans (hL.below.mono hb.size)⟩
  · rw [h]
    have c1 : W.cell? ⟨g, 103, none⟩ = some (.int .i64 s.amount) := (kW.cell _).trans (saidC_n hs 6 (by decide))
    have c2 : W.cell? ⟨g, 299, none⟩ = some (.int .i64 s.expiry) := (kW.cell _).trans (saidC_n hs 10 (by decide))
    have c3 : W.cell? ⟨g, 301, none⟩ = some (.string ⟨s.route.toArray⟩) := (kW.cell _).trans (saidC_route hs)
    have hsz : (⟨s.route.toArray⟩ : ByteArray).size = s.route.length := by simp [ByteArray.size]
    obtain ⟨b1, h1⟩ : ∃ b, decide (0 < s.amount) = b := ⟨_, rfl⟩
    obtain ⟨b2, h2⟩ : ∃ b, decide (0 < s.expiry) = b := ⟨_, rfl⟩
    obtain ⟨b3, h3⟩ : ∃ b, decide (s.route.length ≤ 512) = b := ⟨_, rfl⟩
    have h3' : decide ((s.route.length : Int) ≤ 512) = b3 := by rw [← h3]; exact decide_eq_decide.2 (by omega)
    have hv : specialR s.kind s = (b1 && b2 && b3) := by rw [h, ← h1, ← h2, ← h3]; rfl
    have HV := Lib.hid hv
    clear hv kW
    cases b1
    · go_wp2_with fail
      go_ret
      exact ⟨by rw [← h, HV.out]; rfl, hb.trans (hL.below.mono hb.size)⟩
    cases b2
    · go_wp2_with fail
      go_ret
      exact ⟨by rw [← h, HV.out]; rfl, hb.trans (hL.below.mono hb.size)⟩
    · go_wp2_with fail
      go_ret
      exact ⟨by rw [← h, HV.out]; rfl, hb.trans (hL.below.mono hb.size)⟩
  · have HV : Hid (specialR s.kind s = true) := Lib.hid (by rw [h]; rfl)
    rw [h]
    go_wp2_with fail
    go_ret
    exact ⟨by rw [HV.out]; rfl, hb.trans (hL.below.mono hb.size)⟩
  · rw [h]
    have c1 : W.cell? ⟨g, 300, none⟩ = some (.int .i64 s.code) := (kW.cell _).trans (saidC_n hs 11 (by decide))
    obtain ⟨b1, d1⟩ : ∃ b, decide (1 ≤ s.code) = b := ⟨_, rfl⟩
    obtain ⟨b2, d2⟩ : ∃ b, decide (s.code ≤ 999) = b := ⟨_, rfl⟩
    have hv : specialR s.kind s = (b1 && b2) := by rw [h, ← d1, ← d2]; rfl
    have HV := Lib.hid hv
    clear hv
    cases b1
    · go_wp2_with fail
      go_ret
      exact ⟨by rw [← h, HV.out]; rfl, hb.trans (hL.below.mono hb.size)⟩
    · go_wp2_with fail
      go_ret
      exact ⟨by rw [← h, HV.out]; rfl, hb.trans (hL.below.mono hb.size)⟩
  · have HV : Hid (specialR s.kind s = true) := Lib.hid (by rw [h]; rfl)
    rw [h]
    go_wp2_with fail
    go_ret
    exact ⟨by rw [HV.out]; rfl, hb.trans (hL.below.mono hb.size)⟩
  · have HV : Hid (specialR s.kind s = true) := Lib.hid (by rw [h]; rfl)
    rw [h]
    go_wp2_with fail
    go_ret
    exact ⟨by rw [HV.out]; rfl, hb.trans (hL.below.mono hb.size)⟩
  · have HV : Hid (specialR s.kind s = true) := Lib.hid (by rw [h]; rfl)
    rw [h]
    go_wp2_with fail
    go_ret
    exact ⟨by rw [HV.out]; rfl, hb.trans (hL.below.mono hb.size)⟩
  · have HV : Hid (specialR s.kind s = true) := Lib.hid (by rw [h]; rfl)
    rw [h]
    go_wp2_with fail
    go_ret
    exact ⟨by rw [HV.out]; rfl, hb.trans (hL.below.mono hb.size)⟩
  · have HV : Hid (specialR s.kind s = true) := Lib.hid (by rw [h]; rfl)
    rw [h]
    go_wp2_with fail
    go_ret
    exact ⟨by rw [HV.out]; rfl, hb.trans (hL.below.mono hb.size)⟩
  · rw [h]
    have c1 : W.cell? ⟨g, 300, none⟩ = some (.int .i64 s.code) := (kW.cell _).trans (saidC_n hs 11 (by decide))
    obtain ⟨b1, d1⟩ : ∃ b, decide (1 ≤ s.code) = b := ⟨_, rfl⟩
    obtain ⟨b2, d2⟩ : ∃ b, decide (s.code ≤ 999) = b := ⟨_, rfl⟩
    have hv : specialR s.kind s = (b1 && b2) := by rw [h, ← d1, ← d2]; rfl
    have HV := Lib.hid hv
    clear hv
    cases b1
    · go_wp2_with fail
      go_ret
      exact ⟨by rw [← h, HV.out]; rfl, hb.trans (hL.below.mono hb.size)⟩
    · go_wp2_with fail
      go_ret
      exact ⟨by rw [← h, HV.out]; rfl, hb.trans (hL.below.mono hb.size)⟩
end Go.Proofs.YtcajhdmppfiaeaaGreat
