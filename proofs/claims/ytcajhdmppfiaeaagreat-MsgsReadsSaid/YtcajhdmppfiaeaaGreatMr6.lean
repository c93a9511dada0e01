/- Joined texts: Gl6 Gl7 Gl8 Gl9 Gl10 Gl11 Go Gl12. -/
import Derived.Test.YtcajhdmppfiaeaaGreatMr5
import Derived.WalkKit
import Derived.WalkSpells
import Derived.Deep.MidRow
import Derived.Deep.WholeRow
import Derived.Deep.Draws
import Derived.Maps.AppendAt
import Derived.Lib.Hide
import Derived.OwnWalk
import Derived.Laws.IdiomStrings
import Derived.Lib.SlBytesConst
import Derived.Orders
import Derived.Shelf.Abstract
import Derived.OrdersIn
import Derived.RangeFuncCalls
import Derived.RangeFuncNested
import Derived.RangeFuncBound
import Derived.RangeFuncLeaves
import Derived.Shelf.RegionOpen
import Derived.OwnWalkIn
import Derived.TacticsInMore
import Derived.LoopNIn
import Derived.LoopIn
import Derived.WalkMore
import Derived.Test.YtcajhdmppfiaeaaGreatRows
import Derived.ProofKit
import Derived.OpenShut
import Derived.Deep.Slices
import Derived.Deep.Matrix
import Derived.WalkLawsBesides
import Derived.BigRegion
import Derived.BigQuiet
import Derived.Lib.AppendZeros
import Derived.Laws.BitsAllLaws
import Derived.IntWalk
import Derived.Laws.CopyOwn
import Derived.Outline
import Derived.Deep.RegionWith
import Derived.Deep.RegionHeld3
import Derived.Stop.BytesEq
import Derived.ShutString
import Derived.ChangeOld
import Derived.Lib.ConvBytes
import Derived.Recover
import Derived.Defers
import Derived.Deep.Cut
import Derived.Deep.DeepCutAuto
import Derived.Deep.QuietTactic
import Derived.Laws.EntriesVeiled
import Derived.StillTailTactics
import Derived.Maps.OwnOps
import Derived.Lib.QuoteBits
import Derived.Lib.AppendStr
import Derived.Deep.Grids
import Derived.Deep.Strs
import Derived.MapKept
import Derived.Laws.StructEq
import Derived.ChangeKeysEq
import Derived.Stop.Joined
set_option linter.unusedVariables false
set_option linter.unusedSimpArgs false
namespace Go.Proofs.YtcajhdmppfiaeaaGreat
open Go.RowKit Ms
section
variable {P : Program} {Q : Exit → Act → World → Prop} {o : Oper} {a : Act} {W : World} {R : Value → World → Prop}
theorem op_not {T : TypeId} {x : Operand} {b : Bool} (ho : o.op = .unOp .not T x) (hx : a.eval x = .bool b) (h : R (.bool (!b)) W) : o.wp P a W (fun a' W' => ∃ v, a' = a.put o.dst v ∧ Later W W' ∧ R v W') Q := by
  refine op_value (v := .bool (!b)) (W' := W) ?_ (Later.refl _) h
  unfold execOp
  simp only [ho, hx, Sem.run_bind, Sem.run_pure, Result.andThen_ok]
  cases b <;> go_simp
theorem wpList_fieldA {ops : Array Oper} {rest : List Oper} (hgd : o.guard = none) (T : TypeId) (i : Nat) (x : Operand) (ho : o.op = .fieldAddr T x i) (vx : Value) (hx : a.eval x = vx) {v : Value} {w' : World} (hr : (Instr.fieldAt T vx i).run P W = .ok v w')
    (h : wpList P ops Q rest (a.put o.dst v) w') : wpList P ops Q (o :: rest) a W :=
  wpList_on (by unfold Region.wanted; rw [hgd]) fun _ hK => by
    unfold Oper.wp execOp
    simp only [ho, Sem.run_bind, Sem.run_pure, Result.andThen_ok, hx, hr]
    exact hK _ _ h
end
def specialR (k : Int) (s : Said) : Bool :=
  if k = 1 then rtB s && (decide (0 ≤ s.reserve) && (decide (s.reserve ≤ s.cap / 10) && decide (s.amount ≤ s.cap - s.fee - s.reserve)))
  else if k = 3 then decide (s.index < 24) else if k = 6 then addB s else if k = 8 ∨ k = 14 then inB s.code 1 999 else true
theorem lssI (x y : Int) (w : World) : (binOp .lss 3 (.int .i64 x) (.int .i64 y)).run Tryz.prog w = .ok (.bool (decide (x < y))) w := by go_simp
theorem gtrI (x y : Int) (w : World) : (binOp .gtr 3 (.int .i64 x) (.int .i64 y)).run Tryz.prog w = .ok (.bool (decide (y < x))) w := by go_simp
set_option maxRecDepth 100000 in
set_option maxHeartbeats 2000000 in
theorem rright1 (s : Said) (hs : s.wf) (H1 : Hid (∀ W, (binOp .lss 3 (.int .i64 s.kind) (.int .i64 1)).run Tryz.prog W = .ok (.bool true) W)) (w : World) : Calls Tryz.prog 11 #[.agg (saidC s)] w fun e w' => e = .returned (.bool false) ∧ Later w w' := by
  have k1 := Row.new w 29 (saidC s)
  have hbx := boxSaid hs w
  have hb := below_new w (.cells (saidC s) 29)
  go_enter Tryz.func11, Tryz.ntmps11
  go_upto_region 1 with fail
  obtain ⟨g, hg⟩ : ∃ q, q = w.heap.size := ⟨_, rfl⟩
  rw [← hg] at k1 ⊢
  clear hbx hg
  generalize w.alloc (.cells (saidC s) 29) = w1 at *
  have c0 : w1.cell? ⟨g, 0, none⟩ = some (.int .i64 s.kind) := (k1.cell 0).trans (saidC_kind hs)
  go_upto_region 2 with fail
  clear c0
  refine (wpIn_wide (n := 0)).1 ?_
  refine wpIn_region_vals wide_wide [Pr.eq (.int .i64 s.kind), Pr.eq (.bool true), Pr.eq (.bool true), Pr.eq (undef), Pr.eq (undef), Pr.eq (.bool true), Pr.eq (.bool true), Pr.eq (undef), Pr.eq (undef), Pr.eq (undef), Pr.eq (undef), Pr.eq (.bool true), Pr.eq (.bool true), Pr.eq (undef), Pr.eq (undef), Pr.eq (undef), Pr.eq (undef), Pr.eq (.bool true), Pr.eq (.bool true), Pr.eq (undef), Pr.eq (undef), Pr.eq (undef), Pr.eq (undef), Pr.eq (.bool true), Pr.eq (.bool true), Pr.eq (undef), Pr.eq (undef), Pr.eq (undef), Pr.eq (undef), Pr.eq (.bool true), Pr.eq (.bool true), Pr.eq (undef), Pr.eq (undef), Pr.eq (undef), Pr.eq (undef), Pr.eq (.bool true), Pr.eq (.bool true), Pr.eq (undef), Pr.eq (undef), Pr.eq (undef), Pr.eq (undef), Pr.eq (.bool true)] (by kernel_rfl) (by kernel_rfl) (by kernel_rfl) (by kernel_rfl) (by kernel_rfl) ⟨?_, ?_, ?_, ?_, ?_, ?_, ?_, ?_, ?_, ?_, ?_, ?_, ?_, ?_, ?_, ?_, ?_, ?_, ?_, ?_, ?_, ?_, ?_, ?_, ?_, ?_, ?_, ?_, ?_, ?_, ?_, ?_, ?_, ?_, ?_, ?_, ?_, ?_, ?_, ?_, ?_, ?_, trivial⟩ ?_
  · exact fun ac W hL he => stepOk_want rfl (op_move rfl (he.keep (.tmp 3) (by kernel_rfl)))
  · exact fun ac W hL he => stepOk_want rfl (op_binOp rfl (he.get 0 6 (by kernel_rfl) rfl) rfl rfl (H1.out W) rfl)
  · exact fun ac W hL he => stepOk_want rfl (op_move rfl (he.get 1 7 (by kernel_rfl) rfl))
  · exact fun ac W hL he => stepOk_no rfl rfl (he.get 2 8 (by kernel_rfl) rfl) (by decide) rfl
  · exact fun ac W hL he => stepOk_no rfl rfl (he.get 2 8 (by kernel_rfl) rfl) (by decide) rfl
  · exact fun ac W hL he => stepOk_want rfl (op_pick (b := true) rfl (he.get 2 8 (by kernel_rfl) rfl) rfl)
  · exact fun ac W hL he => stepOk_want rfl (op_move rfl (he.get 5 11 (by kernel_rfl) rfl))
  · exact fun ac W hL he => stepOk_no rfl rfl (he.get 6 12 (by kernel_rfl) rfl) (by decide) rfl
  · exact fun ac W hL he => stepOk_no rfl rfl (he.get 6 12 (by kernel_rfl) rfl) (by decide) rfl
  · exact fun ac W hL he => stepOk_no rfl rfl (he.get 6 12 (by kernel_rfl) rfl) (by decide) rfl
  · exact fun ac W hL he => stepOk_no rfl rfl (he.get 6 12 (by kernel_rfl) rfl) (by decide) rfl
  · exact fun ac W hL he => stepOk_want rfl (op_pick (b := true) rfl (he.get 6 12 (by kernel_rfl) rfl) rfl)
  · exact fun ac W hL he => stepOk_want rfl (op_move rfl (he.get 11 17 (by kernel_rfl) rfl))
  · exact fun ac W hL he => stepOk_no rfl rfl (he.get 12 18 (by kernel_rfl) rfl) (by decide) rfl
  · exact fun ac W hL he => stepOk_no rfl rfl (he.get 12 18 (by kernel_rfl) rfl) (by decide) rfl
  · exact fun ac W hL he => stepOk_no rfl rfl (he.get 12 18 (by kernel_rfl) rfl) (by decide) rfl
  · exact fun ac W hL he => stepOk_no rfl rfl (he.get 12 18 (by kernel_rfl) rfl) (by decide) rfl
  · exact fun ac W hL he => stepOk_want rfl (op_pick (b := true) rfl (he.get 12 18 (by kernel_rfl) rfl) rfl)
  · exact fun ac W hL he => stepOk_want rfl (op_move rfl (he.get 17 23 (by kernel_rfl) rfl))
  · exact fun ac W hL he => stepOk_no rfl rfl (he.get 18 24 (by kernel_rfl) rfl) (by decide) rfl
  · exact fun ac W hL he => stepOk_no rfl rfl (he.get 18 24 (by kernel_rfl) rfl) (by decide) rfl
  · exact fun ac W hL he => stepOk_no rfl rfl (he.get 18 24 (by kernel_rfl) rfl) (by decide) rfl
  · exact fun ac W hL he => stepOk_no rfl rfl (he.get 18 24 (by kernel_rfl) rfl) (by decide) rfl
  · exact fun ac W hL he => stepOk_want rfl (op_pick (b := true) rfl (he.get 18 24 (by kernel_rfl) rfl) rfl)
  · exact fun ac W hL he => stepOk_want rfl (op_move rfl (he.get 23 29 (by kernel_rfl) rfl))
  · exact fun ac W hL he => stepOk_no rfl rfl (he.get 24 30 (by kernel_rfl) rfl) (by decide) rfl
  · exact fun ac W hL he => stepOk_no rfl rfl (he.get 24 30 (by kernel_rfl) rfl) (by decide) rfl
  · exact fun ac W hL he => stepOk_no rfl rfl (he.get 24 30 (by kernel_rfl) rfl) (by decide) rfl
  · exact fun ac W hL he => stepOk_no rfl rfl (he.get 24 30 (by kernel_rfl) rfl) (by decide) rfl
  · exact fun ac W hL he => stepOk_want rfl (op_pick (b := true) rfl (he.get 24 30 (by kernel_rfl) rfl) rfl)
  · exact fun ac W hL he => stepOk_want rfl (op_move rfl (he.get 29 35 (by kernel_rfl) rfl))
  · exact fun ac W hL he => stepOk_no rfl rfl (he.get 30 36 (by kernel_rfl) rfl) (by decide) rfl
  · exact fun ac W hL he => stepOk_no rfl rfl (he.get 30 36 (by kernel_rfl) rfl) (by decide) rfl
  · exact fun ac W hL he => stepOk_no rfl rfl (he.get 30 36 (by kernel_rfl) rfl) (by decide) rfl
  · exact fun ac W hL he => stepOk_no rfl rfl (he.get 30 36 (by kernel_rfl) rfl) (by decide) rfl
  · exact fun ac W hL he => stepOk_want rfl (op_pick (b := true) rfl (he.get 30 36 (by kernel_rfl) rfl) rfl)
  · exact fun ac W hL he => stepOk_want rfl (op_move rfl (he.get 35 41 (by kernel_rfl) rfl))
  · exact fun ac W hL he => stepOk_no rfl rfl (he.get 36 42 (by kernel_rfl) rfl) (by decide) rfl
  · exact fun ac W hL he => stepOk_no rfl rfl (he.get 36 42 (by kernel_rfl) rfl) (by decide) rfl
  · exact fun ac W hL he => stepOk_no rfl rfl (he.get 36 42 (by kernel_rfl) rfl) (by decide) rfl
  · exact fun ac W hL he => stepOk_no rfl rfl (he.get 36 42 (by kernel_rfl) rfl) (by decide) rfl
  · exact fun ac W hL he => stepOk_want rfl (op_pick (b := true) rfl (he.get 36 42 (by kernel_rfl) rfl) rfl)
  intro xs W hL hxs
  have h41 : xs 41 = .bool true := hxs 41 (by decide)
  clear hxs
  simp only [putL, Nat.reduceAdd, Act.put, List.setIfInBounds_toArray, List.set_cons_succ, List.set_cons_zero, h41]
  clear h41
  go_wp2_with fail
  go_ret
  exact ⟨rfl, hb.trans (hL.below.mono hb.size)⟩
set_option maxRecDepth 100000 in
set_option maxHeartbeats 2000000 in
theorem rright2 (s : Said) (hs : s.wf) (H1 : Hid (∀ W, (binOp .lss 3 (.int .i64 s.kind) (.int .i64 1)).run Tryz.prog W = .ok (.bool false) W)) (H2 : Hid (∀ W, (binOp .gtr 3 (.int .i64 s.kind) (.int .i64 14)).run Tryz.prog W = .ok (.bool true) W)) (w : World) : Calls Tryz.prog 11 #[.agg (saidC s)] w fun e w' => e = .returned (.bool false) ∧ Later w w' := by
  have k1 := Row.new w 29 (saidC s)
  have hbx := boxSaid hs w
  have hb := below_new w (.cells (saidC s) 29)
  go_enter Tryz.func11, Tryz.ntmps11
  go_upto_region 1 with fail
  obtain ⟨g, hg⟩ : ∃ q, q = w.heap.size := ⟨_, rfl⟩
  rw [← hg] at k1 ⊢
  clear hbx hg
  generalize w.alloc (.cells (saidC s) 29) = w1 at *
  have c0 : w1.cell? ⟨g, 0, none⟩ = some (.int .i64 s.kind) := (k1.cell 0).trans (saidC_kind hs)
  go_upto_region 2 with fail
  clear c0
  refine (wpIn_wide (n := 0)).1 ?_
  refine wpIn_region_vals wide_wide [Pr.eq (.int .i64 s.kind), Pr.eq (.bool false), Pr.eq (.bool false), Pr.eq (.int .i64 s.kind), Pr.eq (.bool true), Pr.eq (.bool true), Pr.eq (.bool true), Pr.eq (undef), Pr.eq (undef), Pr.eq (undef), Pr.eq (undef), Pr.eq (.bool true), Pr.eq (.bool true), Pr.eq (undef), Pr.eq (undef), Pr.eq (undef), Pr.eq (undef), Pr.eq (.bool true), Pr.eq (.bool true), Pr.eq (undef), Pr.eq (undef), Pr.eq (undef), Pr.eq (undef), Pr.eq (.bool true), Pr.eq (.bool true), Pr.eq (undef), Pr.eq (undef), Pr.eq (undef), Pr.eq (undef), Pr.eq (.bool true), Pr.eq (.bool true), Pr.eq (undef), Pr.eq (undef), Pr.eq (undef), Pr.eq (undef), Pr.eq (.bool true), Pr.eq (.bool true), Pr.eq (undef), Pr.eq (undef), Pr.eq (undef), Pr.eq (undef), Pr.eq (.bool true)] (by kernel_rfl) (by kernel_rfl) (by kernel_rfl) (by kernel_rfl) (by kernel_rfl) ⟨?_, ?_, ?_, ?_, ?_, ?_, ?_, ?_, ?_, ?_, ?_, ?_, ?_, ?_, ?_, ?_, ?_, ?_, ?_, ?_, ?_, ?_, ?_, ?_, ?_, ?_, ?_, ?_, ?_, ?_, ?_, ?_, ?_, ?_, ?_, ?_, ?_, ?_, ?_, ?_, ?_, ?_, trivial⟩ ?_
  · exact fun ac W hL he => stepOk_want rfl (op_move rfl (he.keep (.tmp 3) (by kernel_rfl)))
  · exact fun ac W hL he => stepOk_want rfl (op_binOp rfl (he.get 0 6 (by kernel_rfl) rfl) rfl rfl (H1.out W) rfl)
  · exact fun ac W hL he => stepOk_want rfl (op_move rfl (he.get 1 7 (by kernel_rfl) rfl))
  · exact fun ac W hL he => stepOk_yes (j := 2) (t := 8) (b := false) rfl rfl (he.get 2 8 (by kernel_rfl) rfl) (op_move rfl (he.keep (.tmp 3) (by kernel_rfl)))
  · exact fun ac W hL he => stepOk_yes (j := 2) (t := 8) (b := false) rfl rfl (he.get 2 8 (by kernel_rfl) rfl) (op_binOp rfl (he.get 3 9 (by kernel_rfl) rfl) rfl rfl (H2.out W) rfl)
  · exact fun ac W hL he => stepOk_want rfl (op_pick (b := false) rfl (he.get 2 8 (by kernel_rfl) rfl) (he.get 4 10 (by kernel_rfl) rfl))
  · exact fun ac W hL he => stepOk_want rfl (op_move rfl (he.get 5 11 (by kernel_rfl) rfl))
  · exact fun ac W hL he => stepOk_no rfl rfl (he.get 6 12 (by kernel_rfl) rfl) (by decide) rfl
  · exact fun ac W hL he => stepOk_no rfl rfl (he.get 6 12 (by kernel_rfl) rfl) (by decide) rfl
  · exact fun ac W hL he => stepOk_no rfl rfl (he.get 6 12 (by kernel_rfl) rfl) (by decide) rfl
  · exact fun ac W hL he => stepOk_no rfl rfl (he.get 6 12 (by kernel_rfl) rfl) (by decide) rfl
  · exact fun ac W hL he => stepOk_want rfl (op_pick (b := true) rfl (he.get 6 12 (by kernel_rfl) rfl) rfl)
  · exact fun ac W hL he => stepOk_want rfl (op_move rfl (he.get 11 17 (by kernel_rfl) rfl))
  · exact fun ac W hL he => stepOk_no rfl rfl (he.get 12 18 (by kernel_rfl) rfl) (by decide) rfl
  · exact fun ac W hL he => stepOk_no rfl rfl (he.get 12 18 (by kernel_rfl) rfl) (by decide) rfl
  · exact fun ac W hL he => stepOk_no rfl rfl (he.get 12 18 (by kernel_rfl) rfl) (by decide) rfl
  · exact fun ac W hL he => stepOk_no rfl rfl (he.get 12 18 (by kernel_rfl) rfl) (by decide) rfl
  · exact fun ac W hL he => stepOk_want rfl (op_pick (b := true) rfl (he.get 12 18 (by kernel_rfl) rfl) rfl)
  · exact fun ac W hL he => stepOk_want rfl (op_move rfl (he.get 17 23 (by kernel_rfl) rfl))
  · exact fun ac W hL he => stepOk_no rfl rfl (he.get 18 24 (by kernel_rfl) rfl) (by decide) rfl
  · exact fun ac W hL he => stepOk_no rfl rfl (he.get 18 24 (by kernel_rfl) rfl) (by decide) rfl
  · exact fun ac W hL he => stepOk_no rfl rfl (he.get 18 24 (by kernel_rfl) rfl) (by decide) rfl
  · exact fun ac W hL he => stepOk_no rfl rfl (he.get 18 24 (by kernel_rfl) rfl) (by decide) rfl
  · exact fun ac W hL he => stepOk_want rfl (op_pick (b := true) rfl (he.get 18 24 (by kernel_rfl) rfl) rfl)
  · exact fun ac W hL he => stepOk_want rfl (op_move rfl (he.get 23 29 (by kernel_rfl) rfl))
  · exact fun ac W hL he => stepOk_no rfl rfl (he.get 24 30 (by kernel_rfl) rfl) (by decide) rfl
  · exact fun ac W hL he => stepOk_no rfl rfl (he.get 24 30 (by kernel_rfl) rfl) (by decide) rfl
  · exact fun ac W hL he => stepOk_no rfl rfl (he.get 24 30 (by kernel_rfl) rfl) (by decide) rfl
  · exact fun ac W hL he => stepOk_no rfl rfl (he.get 24 30 (by kernel_rfl) rfl) (by decide) rfl
  · exact fun ac W hL he => stepOk_want rfl (op_pick (b := true) rfl (he.get 24 30 (by kernel_rfl) rfl) rfl)
  · exact fun ac W hL he => stepOk_want rfl (op_move rfl (he.get 29 35 (by kernel_rfl) rfl))
  · exact fun ac W hL he => stepOk_no rfl rfl (he.get 30 36 (by kernel_rfl) rfl) (by decide) rfl
  · exact fun ac W hL he => stepOk_no rfl rfl (he.get 30 36 (by kernel_rfl) rfl) (by decide) rfl
  · exact fun ac W hL he => stepOk_no rfl rfl (he.get 30 36 (by kernel_rfl) rfl) (by decide) rfl
  · exact fun ac W hL he => stepOk_no rfl rfl (he.get 30 36 (by kernel_rfl) rfl) (by decide) rfl
  · exact fun ac W hL he => stepOk_want rfl (op_pick (b := true) rfl (he.get 30 36 (by kernel_rfl) rfl) rfl)
  · exact fun ac W hL he => stepOk_want rfl (op_move rfl (he.get 35 41 (by kernel_rfl) rfl))
  · exact fun ac W hL he => stepOk_no rfl rfl (he.get 36 42 (by kernel_rfl) rfl) (by decide) rfl
  · exact fun ac W hL he => stepOk_no rfl rfl (he.get 36 42 (by kernel_rfl) rfl) (by decide) rfl
  · exact fun ac W hL he => stepOk_no rfl rfl (he.get 36 42 (by kernel_rfl) rfl) (by decide) rfl
  · exact fun ac W hL he => stepOk_no rfl rfl (he.get 36 42 (by kernel_rfl) rfl) (by decide) rfl
  · exact fun ac W hL he => stepOk_want rfl (op_pick (b := true) rfl (he.get 36 42 (by kernel_rfl) rfl) rfl)
  intro xs W hL hxs
  have h41 : xs 41 = .bool true := hxs 41 (by decide)
  clear hxs
  simp only [putL, Nat.reduceAdd, Act.put, List.setIfInBounds_toArray, List.set_cons_succ, List.set_cons_zero, h41]
  clear h41
  go_wp2_with fail
  go_ret
  exact ⟨rfl, hb.trans (hL.below.mono hb.size)⟩
set_option maxRecDepth 100000 in
set_option maxHeartbeats 2000000 in
theorem rright3 (s : Said) (hs : s.wf) (H1 : Hid (∀ W, (binOp .lss 3 (.int .i64 s.kind) (.int .i64 1)).run Tryz.prog W = .ok (.bool false) W)) (H2 : Hid (∀ W, (binOp .gtr 3 (.int .i64 s.kind) (.int .i64 14)).run Tryz.prog W = .ok (.bool false) W)) (HNM : Hid (∀ W, Calls Tryz.prog 28 #[.agg (saidC s)] W fun e w' => e = .returned (.agg (saidC (nmd s s.kind))) ∧ Later W w')) (HNQ : Hid (∀ W, (binOp .neq 29 (.agg (saidC s)) (.agg (saidC (nmd s s.kind)))).run Tryz.prog W = .ok (.bool true) W)) (w : World) : Calls Tryz.prog 11 #[.agg (saidC s)] w fun e w' => e = .returned (.bool false) ∧ Later w w' := by
  have k1 := Row.new w 29 (saidC s)
  have hbx := boxSaid hs w
  have hb := below_new w (.cells (saidC s) 29)
  go_enter Tryz.func11, Tryz.ntmps11
  go_upto_region 1 with fail
  obtain ⟨g, hg⟩ : ∃ q, q = w.heap.size := ⟨_, rfl⟩
  rw [← hg] at k1 ⊢
  clear hbx hg
  generalize w.alloc (.cells (saidC s) 29) = w1 at *
  have c0 : w1.cell? ⟨g, 0, none⟩ = some (.int .i64 s.kind) := (k1.cell 0).trans (saidC_kind hs)
  go_upto_region 2 with fail
  clear c0
  refine (wpIn_wide (n := 0)).1 ?_
  refine wpIn_region_vals wide_wide [Pr.eq (.int .i64 s.kind), Pr.eq (.bool false), Pr.eq (.bool false), Pr.eq (.int .i64 s.kind), Pr.eq (.bool false), Pr.eq (.bool false), Pr.eq (.bool false), Pr.eq (.agg (saidC s)), Pr.eq (.agg (saidC s)), Pr.eq (.agg (saidC (nmd s s.kind))), Pr.eq (.bool true), Pr.eq (.bool true), Pr.eq (.bool true), Pr.eq (undef), Pr.eq (undef), Pr.eq (undef), Pr.eq (undef), Pr.eq (.bool true), Pr.eq (.bool true), Pr.eq (undef), Pr.eq (undef), Pr.eq (undef), Pr.eq (undef), Pr.eq (.bool true), Pr.eq (.bool true), Pr.eq (undef), Pr.eq (undef), Pr.eq (undef), Pr.eq (undef), Pr.eq (.bool true), Pr.eq (.bool true), Pr.eq (undef), Pr.eq (undef), Pr.eq (undef), Pr.eq (undef), Pr.eq (.bool true), Pr.eq (.bool true), Pr.eq (undef), Pr.eq (undef), Pr.eq (undef), Pr.eq (undef), Pr.eq (.bool true)] (by kernel_rfl) (by kernel_rfl) (by kernel_rfl) (by kernel_rfl) (by kernel_rfl) ⟨?_, ?_, ?_, ?_, ?_, ?_, ?_, ?_, ?_, ?_, ?_, ?_, ?_, ?_, ?_, ?_, ?_, ?_, ?_, ?_, ?_, ?_, ?_, ?_, ?_, ?_, ?_, ?_, ?_, ?_, ?_, ?_, ?_, ?_, ?_, ?_, ?_, ?_, ?_, ?_, ?_, ?_, trivial⟩ ?_
  · exact fun ac W hL he => stepOk_want rfl (op_move rfl (he.keep (.tmp 3) (by kernel_rfl)))
  · exact fun ac W hL he => stepOk_want rfl (op_binOp rfl (he.get 0 6 (by kernel_rfl) rfl) rfl rfl (H1.out W) rfl)
  · exact fun ac W hL he => stepOk_want rfl (op_move rfl (he.get 1 7 (by kernel_rfl) rfl))
  · exact fun ac W hL he => stepOk_yes (j := 2) (t := 8) (b := false) rfl rfl (he.get 2 8 (by kernel_rfl) rfl) (op_move rfl (he.keep (.tmp 3) (by kernel_rfl)))
  · exact fun ac W hL he => stepOk_yes (j := 2) (t := 8) (b := false) rfl rfl (he.get 2 8 (by kernel_rfl) rfl) (op_binOp rfl (he.get 3 9 (by kernel_rfl) rfl) rfl rfl (H2.out W) rfl)
  · exact fun ac W hL he => stepOk_want rfl (op_pick (b := false) rfl (he.get 2 8 (by kernel_rfl) rfl) (he.get 4 10 (by kernel_rfl) rfl))
  · exact fun ac W hL he => stepOk_want rfl (op_move rfl (he.get 5 11 (by kernel_rfl) rfl))
  · exact fun ac W hL he => stepOk_yes (j := 6) (t := 12) (b := false) rfl rfl (he.get 6 12 (by kernel_rfl) rfl) (op_load rfl (he.keep (.tmp 1) (by kernel_rfl)) (loadSaid hs (k1.later hL)) rfl)
  · exact fun ac W hL he => stepOk_yes (j := 6) (t := 12) (b := false) rfl rfl (he.get 6 12 (by kernel_rfl) rfl) (op_load rfl (he.keep (.tmp 1) (by kernel_rfl)) (loadSaid hs (k1.later hL)) rfl)
  · intro ac W hL he; refine stepOk_yes (j := 6) (t := 12) (b := false) rfl rfl (he.get 6 12 (by kernel_rfl) rfl) ?_; have e0 : ac.eval (.tmp 14) = .agg (saidC s) := (he.get 8 14 (by kernel_rfl) rfl); exact op_callF (vs := #[.agg (saidC s)]) rfl (by simp only [List.map_toArray, List.map_cons, List.map_nil, e0]) (enters_of Tryz.func28 (by kernel_rfl) rfl) (((HNM.out W)).mono fun e W' ⟨he', hb⟩ => ⟨_, he', hb, rfl⟩)
  · exact fun ac W hL he => stepOk_yes (j := 6) (t := 12) (b := false) rfl rfl (he.get 6 12 (by kernel_rfl) rfl) (op_binOp rfl (he.get 7 13 (by kernel_rfl) rfl) (he.get 9 15 (by kernel_rfl) rfl) (by kernel_rfl) (HNQ.out W) rfl)
  · exact fun ac W hL he => stepOk_want rfl (op_pick (b := false) rfl (he.get 6 12 (by kernel_rfl) rfl) (he.get 10 16 (by kernel_rfl) rfl))
  · exact fun ac W hL he => stepOk_want rfl (op_move rfl (he.get 11 17 (by kernel_rfl) rfl))
  · exact fun ac W hL he => stepOk_no rfl rfl (he.get 12 18 (by kernel_rfl) rfl) (by decide) rfl
  · exact fun ac W hL he => stepOk_no rfl rfl (he.get 12 18 (by kernel_rfl) rfl) (by decide) rfl
  · exact fun ac W hL he => stepOk_no rfl rfl (he.get 12 18 (by kernel_rfl) rfl) (by decide) rfl
  · exact fun ac W hL he => stepOk_no rfl rfl (he.get 12 18 (by kernel_rfl) rfl) (by decide) rfl
  · exact fun ac W hL he => stepOk_want rfl (op_pick (b := true) rfl (he.get 12 18 (by kernel_rfl) rfl) rfl)
  · exact fun ac W hL he => stepOk_want rfl (op_move rfl (he.get 17 23 (by kernel_rfl) rfl))
  · exact fun ac W hL he => stepOk_no rfl rfl (he.get 18 24 (by kernel_rfl) rfl) (by decide) rfl
  · exact fun ac W hL he => stepOk_no rfl rfl (he.get 18 24 (by kernel_rfl) rfl) (by decide) rfl
  · exact fun ac W hL he => stepOk_no rfl rfl (he.get 18 24 (by kernel_rfl) rfl) (by decide) rfl
  · exact fun ac W hL he => stepOk_no rfl rfl (he.get 18 24 (by kernel_rfl) rfl) (by decide) rfl
  · exact fun ac W hL he => stepOk_want rfl (op_pick (b := true) rfl (he.get 18 24 (by kernel_rfl) rfl) rfl)
  · exact fun ac W hL he => stepOk_want rfl (op_move rfl (he.get 23 29 (by kernel_rfl) rfl))
  · exact fun ac W hL he => stepOk_no rfl rfl (he.get 24 30 (by kernel_rfl) rfl) (by decide) rfl
  · exact fun ac W hL he => stepOk_no rfl rfl (he.get 24 30 (by kernel_rfl) rfl) (by decide) rfl
  · exact fun ac W hL he => stepOk_no rfl rfl (he.get 24 30 (by kernel_rfl) rfl) (by decide) rfl
  · exact fun ac W hL he => stepOk_no rfl rfl (he.get 24 30 (by kernel_rfl) rfl) (by decide) rfl
  · exact fun ac W hL he => stepOk_want rfl (op_pick (b := true) rfl (he.get 24 30 (by kernel_rfl) rfl) rfl)
  · exact fun ac W hL he => stepOk_want rfl (op_move rfl (he.get 29 35 (by kernel_rfl) rfl))
  · exact fun ac W hL he => stepOk_no rfl rfl (he.get 30 36 (by kernel_rfl) rfl) (by decide) rfl
  · exact fun ac W hL he => stepOk_no rfl rfl (he.get 30 36 (by kernel_rfl) rfl) (by decide) rfl
  · exact fun ac W hL he => stepOk_no rfl rfl (he.get 30 36 (by kernel_rfl) rfl) (by decide) rfl
  · exact fun ac W hL he => stepOk_no rfl rfl (he.get 30 36 (by kernel_rfl) rfl) (by decide) rfl
  · exact fun ac W hL he => stepOk_want rfl (op_pick (b := true) rfl (he.get 30 36 (by kernel_rfl) rfl) rfl)
  · exact fun ac W hL he => stepOk_want rfl (op_move rfl (he.get 35 41 (by kernel_rfl) rfl))
  · exact fun ac W hL he => stepOk_no rfl rfl (he.get 36 42 (by kernel_rfl) rfl) (by decide) rfl
  · exact fun ac W hL he => stepOk_no rfl rfl (he.get 36 42 (by kernel_rfl) rfl) (by decide) rfl
  · exact fun ac W hL he => stepOk_no rfl rfl (he.get 36 42 (by kernel_rfl) rfl) (by decide) rfl
  · exact fun ac W hL he => stepOk_no rfl rfl (he.get 36 42 (by kernel_rfl) rfl) (by decide) rfl
  · exact fun ac W hL he => stepOk_want rfl (op_pick (b := true) rfl (he.get 36 42 (by kernel_rfl) rfl) rfl)
  intro xs W hL hxs
  have h41 : xs 41 = .bool true := hxs 41 (by decide)
  clear hxs
  simp only [putL, Nat.reduceAdd, Act.put, List.setIfInBounds_toArray, List.set_cons_succ, List.set_cons_zero, h41]
  clear h41
  go_wp2_with fail
  go_ret
  exact ⟨rfl, hb.trans (hL.below.mono hb.size)⟩
set_option maxRecDepth 100000 in
set_option maxHeartbeats 2000000 in
theorem rright4 (s : Said) (hs : s.wf) (H1 : Hid (∀ W, (binOp .lss 3 (.int .i64 s.kind) (.int .i64 1)).run Tryz.prog W = .ok (.bool false) W)) (H2 : Hid (∀ W, (binOp .gtr 3 (.int .i64 s.kind) (.int .i64 14)).run Tryz.prog W = .ok (.bool false) W)) (HNM : Hid (∀ W, Calls Tryz.prog 28 #[.agg (saidC s)] W fun e w' => e = .returned (.agg (saidC (nmd s s.kind))) ∧ Later W w')) (HNQ : Hid (∀ W, (binOp .neq 29 (.agg (saidC s)) (.agg (saidC (nmd s s.kind)))).run Tryz.prog W = .ok (.bool false) W)) (H4 : Hid (∀ W, Calls Tryz.prog 29 #[.int .i64 (s.n 7)] W fun e w' => w' = W ∧ e = .returned (.bool false))) (w : World) : Calls Tryz.prog 11 #[.agg (saidC s)] w fun e w' => e = .returned (.bool false) ∧ Later w w' := by
  have k1 := Row.new w 29 (saidC s)
  have hbx := boxSaid hs w
  have hb := below_new w (.cells (saidC s) 29)
  go_enter Tryz.func11, Tryz.ntmps11
  go_upto_region 1 with fail
  obtain ⟨g, hg⟩ : ∃ q, q = w.heap.size := ⟨_, rfl⟩
  rw [← hg] at k1 ⊢
  clear hbx hg
  generalize w.alloc (.cells (saidC s) 29) = w1 at *
  have c0 : w1.cell? ⟨g, 0, none⟩ = some (.int .i64 s.kind) := (k1.cell 0).trans (saidC_kind hs)
  go_upto_region 2 with fail
  clear c0
  refine (wpIn_wide (n := 0)).1 ?_
  refine wpIn_region_vals wide_wide [Pr.eq (.int .i64 s.kind), Pr.eq (.bool false), Pr.eq (.bool false), Pr.eq (.int .i64 s.kind), Pr.eq (.bool false), Pr.eq (.bool false), Pr.eq (.bool false), Pr.eq (.agg (saidC s)), Pr.eq (.agg (saidC s)), Pr.eq (.agg (saidC (nmd s s.kind))), Pr.eq (.bool false), Pr.eq (.bool false), Pr.eq (.bool false), Pr.eq (.pointer (some ⟨g, offN 7, none⟩)), Pr.eq (.int .i64 (s.n 7)), Pr.eq (.bool false), Pr.eq (.bool true), Pr.eq (.bool true), Pr.eq (.bool true), Pr.eq (undef), Pr.eq (undef), Pr.eq (undef), Pr.eq (undef), Pr.eq (.bool true), Pr.eq (.bool true), Pr.eq (undef), Pr.eq (undef), Pr.eq (undef), Pr.eq (undef), Pr.eq (.bool true), Pr.eq (.bool true), Pr.eq (undef), Pr.eq (undef), Pr.eq (undef), Pr.eq (undef), Pr.eq (.bool true), Pr.eq (.bool true), Pr.eq (undef), Pr.eq (undef), Pr.eq (undef), Pr.eq (undef), Pr.eq (.bool true)] (by kernel_rfl) (by kernel_rfl) (by kernel_rfl) (by kernel_rfl) (by kernel_rfl) ⟨?_, ?_, ?_, ?_, ?_, ?_, ?_, ?_, ?_, ?_, ?_, ?_, ?_, ?_, ?_, ?_, ?_, ?_, ?_, ?_, ?_, ?_, ?_, ?_, ?_, ?_, ?_, ?_, ?_, ?_, ?_, ?_, ?_, ?_, ?_, ?_, ?_, ?_, ?_, ?_, ?_, ?_, trivial⟩ ?_
  · exact fun ac W hL he => stepOk_want rfl (op_move rfl (he.keep (.tmp 3) (by kernel_rfl)))
  · exact fun ac W hL he => stepOk_want rfl (op_binOp rfl (he.get 0 6 (by kernel_rfl) rfl) rfl rfl (H1.out W) rfl)
  · exact fun ac W hL he => stepOk_want rfl (op_move rfl (he.get 1 7 (by kernel_rfl) rfl))
  · exact fun ac W hL he => stepOk_yes (j := 2) (t := 8) (b := false) rfl rfl (he.get 2 8 (by kernel_rfl) rfl) (op_move rfl (he.keep (.tmp 3) (by kernel_rfl)))
  · exact fun ac W hL he => stepOk_yes (j := 2) (t := 8) (b := false) rfl rfl (he.get 2 8 (by kernel_rfl) rfl) (op_binOp rfl (he.get 3 9 (by kernel_rfl) rfl) rfl rfl (H2.out W) rfl)
  · exact fun ac W hL he => stepOk_want rfl (op_pick (b := false) rfl (he.get 2 8 (by kernel_rfl) rfl) (he.get 4 10 (by kernel_rfl) rfl))
  · exact fun ac W hL he => stepOk_want rfl (op_move rfl (he.get 5 11 (by kernel_rfl) rfl))
  · exact fun ac W hL he => stepOk_yes (j := 6) (t := 12) (b := false) rfl rfl (he.get 6 12 (by kernel_rfl) rfl) (op_load rfl (he.keep (.tmp 1) (by kernel_rfl)) (loadSaid hs (k1.later hL)) rfl)
  · exact fun ac W hL he => stepOk_yes (j := 6) (t := 12) (b := false) rfl rfl (he.get 6 12 (by kernel_rfl) rfl) (op_load rfl (he.keep (.tmp 1) (by kernel_rfl)) (loadSaid hs (k1.later hL)) rfl)
  · intro ac W hL he; refine stepOk_yes (j := 6) (t := 12) (b := false) rfl rfl (he.get 6 12 (by kernel_rfl) rfl) ?_; have e0 : ac.eval (.tmp 14) = .agg (saidC s) := (he.get 8 14 (by kernel_rfl) rfl); exact op_callF (vs := #[.agg (saidC s)]) rfl (by simp only [List.map_toArray, List.map_cons, List.map_nil, e0]) (enters_of Tryz.func28 (by kernel_rfl) rfl) (((HNM.out W)).mono fun e W' ⟨he', hb⟩ => ⟨_, he', hb, rfl⟩)
  · exact fun ac W hL he => stepOk_yes (j := 6) (t := 12) (b := false) rfl rfl (he.get 6 12 (by kernel_rfl) rfl) (op_binOp rfl (he.get 7 13 (by kernel_rfl) rfl) (he.get 9 15 (by kernel_rfl) rfl) (by kernel_rfl) (HNQ.out W) rfl)
  · exact fun ac W hL he => stepOk_want rfl (op_pick (b := false) rfl (he.get 6 12 (by kernel_rfl) rfl) (he.get 10 16 (by kernel_rfl) rfl))
  · exact fun ac W hL he => stepOk_want rfl (op_move rfl (he.get 11 17 (by kernel_rfl) rfl))
  · exact fun ac W hL he => stepOk_yes (j := 12) (t := 18) (b := false) rfl rfl (he.get 12 18 (by kernel_rfl) rfl) (op_fieldAddr rfl (he.keep (.tmp 1) (by kernel_rfl)) (fieldSd 10 296 (by decide)) rfl)
  · exact fun ac W hL he => stepOk_yes (j := 12) (t := 18) (b := false) rfl rfl (he.get 12 18 (by kernel_rfl) rfl) (op_load rfl (he.get 13 19 (by kernel_rfl) rfl) (loadSaidN hs (k1.later hL) 7 (by decide)) rfl)
  · intro ac W hL he; refine stepOk_yes (j := 12) (t := 18) (b := false) rfl rfl (he.get 12 18 (by kernel_rfl) rfl) ?_; have e0 : ac.eval (.tmp 20) = .int .i64 (s.n 7) := (he.get 14 20 (by kernel_rfl) rfl); exact op_callF (vs := #[.int .i64 (s.n 7)]) rfl (by simp only [List.map_toArray, List.map_cons, List.map_nil, e0]) (enters_of Tryz.func29 (by kernel_rfl) rfl) (((H4.out W)).mono fun e W' ⟨hw', he'⟩ => ⟨_, he', hw' ▸ Later.refl _, rfl⟩)
  · exact fun ac W hL he => stepOk_yes (j := 12) (t := 18) (b := false) rfl rfl (he.get 12 18 (by kernel_rfl) rfl) (op_not rfl (he.get 15 21 (by kernel_rfl) rfl) rfl)
  · exact fun ac W hL he => stepOk_want rfl (op_pick (b := false) rfl (he.get 12 18 (by kernel_rfl) rfl) (he.get 16 22 (by kernel_rfl) rfl))
  · exact fun ac W hL he => stepOk_want rfl (op_move rfl (he.get 17 23 (by kernel_rfl) rfl))
  · exact fun ac W hL he => stepOk_no rfl rfl (he.get 18 24 (by kernel_rfl) rfl) (by decide) rfl
  · exact fun ac W hL he => stepOk_no rfl rfl (he.get 18 24 (by kernel_rfl) rfl) (by decide) rfl
  · exact fun ac W hL he => stepOk_no rfl rfl (he.get 18 24 (by kernel_rfl) rfl) (by decide) rfl
  · exact fun ac W hL he => stepOk_no rfl rfl (he.get 18 24 (by kernel_rfl) rfl) (by decide) rfl
  · exact fun ac W hL he => stepOk_want rfl (op_pick (b := true) rfl (he.get 18 24 (by kernel_rfl) rfl) rfl)
  · exact fun ac W hL he => stepOk_want rfl (op_move rfl (he.get 23 29 (by kernel_rfl) rfl))
  · exact fun ac W hL he => stepOk_no rfl rfl (he.get 24 30 (by kernel_rfl) rfl) (by decide) rfl
  · exact fun ac W hL he => stepOk_no rfl rfl (he.get 24 30 (by kernel_rfl) rfl) (by decide) rfl
  · exact fun ac W hL he => stepOk_no rfl rfl (he.get 24 30 (by kernel_rfl) rfl) (by decide) rfl
  · exact fun ac W hL he => stepOk_no rfl rfl (he.get 24 30 (by kernel_rfl) rfl) (by decide) rfl
  · exact fun ac W hL he => stepOk_want rfl (op_pick (b := true) rfl (he.get 24 30 (by kernel_rfl) rfl) rfl)
  · exact fun ac W hL he => stepOk_want rfl (op_move rfl (he.get 29 35 (by kernel_rfl) rfl))
  · exact fun ac W hL he => stepOk_no rfl rfl (he.get 30 36 (by kernel_rfl) rfl) (by decide) rfl
  · exact fun ac W hL he => stepOk_no rfl rfl (he.get 30 36 (by kernel_rfl) rfl) (by decide) rfl
  · exact fun ac W hL he => stepOk_no rfl rfl (he.get 30 36 (by kernel_rfl) rfl) (by decide) rfl
  · exact fun ac W hL he => stepOk_no rfl rfl (he.get 30 36 (by kernel_rfl) rfl) (by decide) rfl
  · exact fun ac W hL he => stepOk_want rfl (op_pick (b := true) rfl (he.get 30 36 (by kernel_rfl) rfl) rfl)
  · exact fun ac W hL he => stepOk_want rfl (op_move rfl (he.get 35 41 (by kernel_rfl) rfl))
  · exact fun ac W hL he => stepOk_no rfl rfl (he.get 36 42 (by kernel_rfl) rfl) (by decide) rfl
  · exact fun ac W hL he => stepOk_no rfl rfl (he.get 36 42 (by kernel_rfl) rfl) (by decide) rfl
  · exact fun ac W hL he => stepOk_no rfl rfl (he.get 36 42 (by kernel_rfl) rfl) (by decide) rfl
  · exact fun ac W hL he => stepOk_no rfl rfl (he.get 36 42 (by kernel_rfl) rfl) (by decide) rfl
  · exact fun ac W hL he => stepOk_want rfl (op_pick (b := true) rfl (he.get 36 42 (by kernel_rfl) rfl) rfl)
  intro xs W hL hxs
  have h41 : xs 41 = .bool true := hxs 41 (by decide)
  clear hxs
  simp only [putL, Nat.reduceAdd, Act.put, List.setIfInBounds_toArray, List.set_cons_succ, List.set_cons_zero, h41]
  clear h41
  go_wp2_with fail
  go_ret
  exact ⟨rfl, hb.trans (hL.below.mono hb.size)⟩
set_option maxRecDepth 100000 in
set_option maxHeartbeats 2000000 in
theorem rright5 (s : Said) (hs : s.wf) (H1 : Hid (∀ W, (binOp .lss 3 (.int .i64 s.kind) (.int .i64 1)).run Tryz.prog W = .ok (.bool false) W)) (H2 : Hid (∀ W, (binOp .gtr 3 (.int .i64 s.kind) (.int .i64 14)).run Tryz.prog W = .ok (.bool false) W)) (HNM : Hid (∀ W, Calls Tryz.prog 28 #[.agg (saidC s)] W fun e w' => e = .returned (.agg (saidC (nmd s s.kind))) ∧ Later W w')) (HNQ : Hid (∀ W, (binOp .neq 29 (.agg (saidC s)) (.agg (saidC (nmd s s.kind)))).run Tryz.prog W = .ok (.bool false) W)) (H4 : Hid (∀ W, Calls Tryz.prog 29 #[.int .i64 (s.n 7)] W fun e w' => w' = W ∧ e = .returned (.bool true))) (H5 : Hid (∀ W, Calls Tryz.prog 29 #[.int .i64 (s.n 8)] W fun e w' => w' = W ∧ e = .returned (.bool false))) (w : World) : Calls Tryz.prog 11 #[.agg (saidC s)] w fun e w' => e = .returned (.bool false) ∧ Later w w' := by
  have k1 := Row.new w 29 (saidC s)
  have hbx := boxSaid hs w
  have hb := below_new w (.cells (saidC s) 29)
  go_enter Tryz.func11, Tryz.ntmps11
  go_upto_region 1 with fail
  obtain ⟨g, hg⟩ : ∃ q, q = w.heap.size := ⟨_, rfl⟩
  rw [← hg] at k1 ⊢
  clear hbx hg
  generalize w.alloc (.cells (saidC s) 29) = w1 at *
  have c0 : w1.cell? ⟨g, 0, none⟩ = some (.int .i64 s.kind) := (k1.cell 0).trans (saidC_kind hs)
  go_upto_region 2 with fail
  clear c0
  refine (wpIn_wide (n := 0)).1 ?_
  refine wpIn_region_vals wide_wide [Pr.eq (.int .i64 s.kind), Pr.eq (.bool false), Pr.eq (.bool false), Pr.eq (.int .i64 s.kind), Pr.eq (.bool false), Pr.eq (.bool false), Pr.eq (.bool false), Pr.eq (.agg (saidC s)), Pr.eq (.agg (saidC s)), Pr.eq (.agg (saidC (nmd s s.kind))), Pr.eq (.bool false), Pr.eq (.bool false), Pr.eq (.bool false), Pr.eq (.pointer (some ⟨g, offN 7, none⟩)), Pr.eq (.int .i64 (s.n 7)), Pr.eq (.bool true), Pr.eq (.bool false), Pr.eq (.bool false), Pr.eq (.bool false), Pr.eq (.pointer (some ⟨g, offN 8, none⟩)), Pr.eq (.int .i64 (s.n 8)), Pr.eq (.bool false), Pr.eq (.bool true), Pr.eq (.bool true), Pr.eq (.bool true), Pr.eq (undef), Pr.eq (undef), Pr.eq (undef), Pr.eq (undef), Pr.eq (.bool true), Pr.eq (.bool true), Pr.eq (undef), Pr.eq (undef), Pr.eq (undef), Pr.eq (undef), Pr.eq (.bool true), Pr.eq (.bool true), Pr.eq (undef), Pr.eq (undef), Pr.eq (undef), Pr.eq (undef), Pr.eq (.bool true)] (by kernel_rfl) (by kernel_rfl) (by kernel_rfl) (by kernel_rfl) (by kernel_rfl) ⟨?_, ?_, ?_, ?_, ?_, ?_, ?_, ?_, ?_, ?_, ?_, ?_, ?_, ?_, ?_, ?_, ?_, ?_, ?_, ?_, ?_, ?_, ?_, ?_, ?_, ?_, ?_, ?_, ?_, ?_, ?_, ?_, ?_, ?_, ?_, ?_, ?_, ?_, ?_, ?_, ?_, ?_, trivial⟩ ?_
  · exact fun ac W hL he => stepOk_want rfl (op_move rfl (he.keep (.tmp 3) (by kernel_rfl)))
  · exact fun ac W hL he => stepOk_want rfl (op_binOp rfl (he.get 0 6 (by kernel_rfl) rfl) rfl rfl (H1.out W) rfl)
  · exact fun ac W hL he => stepOk_want rfl (op_move rfl (he.get 1 7 (by kernel_rfl) rfl))
  · exact fun ac W hL he => stepOk_yes (j := 2) (t := 8) (b := false) rfl rfl (he.get 2 8 (by kernel_rfl) rfl) (op_move rfl (he.keep (.tmp 3) (by kernel_rfl)))
  · exact fun ac W hL he => stepOk_yes (j := 2) (t := 8) (b := false) rfl rfl (he.get 2 8 (by kernel_rfl) rfl) (op_binOp rfl (he.get 3 9 (by kernel_rfl) rfl) rfl rfl (H2.out W) rfl)
  · exact fun ac W hL he => stepOk_want rfl (op_pick (b := false) rfl (he.get 2 8 (by kernel_rfl) rfl) (he.get 4 10 (by kernel_rfl) rfl))
  · exact fun ac W hL he => stepOk_want rfl (op_move rfl (he.get 5 11 (by kernel_rfl) rfl))
  · exact fun ac W hL he => stepOk_yes (j := 6) (t := 12) (b := false) rfl rfl (he.get 6 12 (by kernel_rfl) rfl) (op_load rfl (he.keep (.tmp 1) (by kernel_rfl)) (loadSaid hs (k1.later hL)) rfl)
  · exact fun ac W hL he => stepOk_yes (j := 6) (t := 12) (b := false) rfl rfl (he.get 6 12 (by kernel_rfl) rfl) (op_load rfl (he.keep (.tmp 1) (by kernel_rfl)) (loadSaid hs (k1.later hL)) rfl)
  · intro ac W hL he; refine stepOk_yes (j := 6) (t := 12) (b := false) rfl rfl (he.get 6 12 (by kernel_rfl) rfl) ?_; have e0 : ac.eval (.tmp 14) = .agg (saidC s) := (he.get 8 14 (by kernel_rfl) rfl); exact op_callF (vs := #[.agg (saidC s)]) rfl (by simp only [List.map_toArray, List.map_cons, List.map_nil, e0]) (enters_of Tryz.func28 (by kernel_rfl) rfl) (((HNM.out W)).mono fun e W' ⟨he', hb⟩ => ⟨_, he', hb, rfl⟩)
  · exact fun ac W hL he => stepOk_yes (j := 6) (t := 12) (b := false) rfl rfl (he.get 6 12 (by kernel_rfl) rfl) (op_binOp rfl (he.get 7 13 (by kernel_rfl) rfl) (he.get 9 15 (by kernel_rfl) rfl) (by kernel_rfl) (HNQ.out W) rfl)
  · exact fun ac W hL he => stepOk_want rfl (op_pick (b := false) rfl (he.get 6 12 (by kernel_rfl) rfl) (he.get 10 16 (by kernel_rfl) rfl))
  · exact fun ac W hL he => stepOk_want rfl (op_move rfl (he.get 11 17 (by kernel_rfl) rfl))
  · exact fun ac W hL he => stepOk_yes (j := 12) (t := 18) (b := false) rfl rfl (he.get 12 18 (by kernel_rfl) rfl) (op_fieldAddr rfl (he.keep (.tmp 1) (by kernel_rfl)) (fieldSd 10 296 (by decide)) rfl)
  · exact fun ac W hL he => stepOk_yes (j := 12) (t := 18) (b := false) rfl rfl (he.get 12 18 (by kernel_rfl) rfl) (op_load rfl (he.get 13 19 (by kernel_rfl) rfl) (loadSaidN hs (k1.later hL) 7 (by decide)) rfl)
  · intro ac W hL he; refine stepOk_yes (j := 12) (t := 18) (b := false) rfl rfl (he.get 12 18 (by kernel_rfl) rfl) ?_; have e0 : ac.eval (.tmp 20) = .int .i64 (s.n 7) := (he.get 14 20 (by kernel_rfl) rfl); exact op_callF (vs := #[.int .i64 (s.n 7)]) rfl (by simp only [List.map_toArray, List.map_cons, List.map_nil, e0]) (enters_of Tryz.func29 (by kernel_rfl) rfl) (((H4.out W)).mono fun e W' ⟨hw', he'⟩ => ⟨_, he', hw' ▸ Later.refl _, rfl⟩)
  · exact fun ac W hL he => stepOk_yes (j := 12) (t := 18) (b := false) rfl rfl (he.get 12 18 (by kernel_rfl) rfl) (op_not rfl (he.get 15 21 (by kernel_rfl) rfl) rfl)
  · exact fun ac W hL he => stepOk_want rfl (op_pick (b := false) rfl (he.get 12 18 (by kernel_rfl) rfl) (he.get 16 22 (by kernel_rfl) rfl))
  · exact fun ac W hL he => stepOk_want rfl (op_move rfl (he.get 17 23 (by kernel_rfl) rfl))
  · exact fun ac W hL he => stepOk_yes (j := 18) (t := 24) (b := false) rfl rfl (he.get 18 24 (by kernel_rfl) rfl) (op_fieldAddr rfl (he.keep (.tmp 1) (by kernel_rfl)) (fieldSd 11 297 (by decide)) rfl)
  · exact fun ac W hL he => stepOk_yes (j := 18) (t := 24) (b := false) rfl rfl (he.get 18 24 (by kernel_rfl) rfl) (op_load rfl (he.get 19 25 (by kernel_rfl) rfl) (loadSaidN hs (k1.later hL) 8 (by decide)) rfl)
  · intro ac W hL he; refine stepOk_yes (j := 18) (t := 24) (b := false) rfl rfl (he.get 18 24 (by kernel_rfl) rfl) ?_; have e0 : ac.eval (.tmp 26) = .int .i64 (s.n 8) := (he.get 20 26 (by kernel_rfl) rfl); exact op_callF (vs := #[.int .i64 (s.n 8)]) rfl (by simp only [List.map_toArray, List.map_cons, List.map_nil, e0]) (enters_of Tryz.func29 (by kernel_rfl) rfl) (((H5.out W)).mono fun e W' ⟨hw', he'⟩ => ⟨_, he', hw' ▸ Later.refl _, rfl⟩)
  · exact fun ac W hL he => stepOk_yes (j := 18) (t := 24) (b := false) rfl rfl (he.get 18 24 (by kernel_rfl) rfl) (op_not rfl (he.get 21 27 (by kernel_rfl) rfl) rfl)
  · exact fun ac W hL he => stepOk_want rfl (op_pick (b := false) rfl (he.get 18 24 (by kernel_rfl) rfl) (he.get 22 28 (by kernel_rfl) rfl))
  · exact fun ac W hL he => stepOk_want rfl (op_move rfl (he.get 23 29 (by kernel_rfl) rfl))
  · exact fun ac W hL he => stepOk_no rfl rfl (he.get 24 30 (by kernel_rfl) rfl) (by decide) rfl
  · exact fun ac W hL he => stepOk_no rfl rfl (he.get 24 30 (by kernel_rfl) rfl) (by decide) rfl
  · exact fun ac W hL he => stepOk_no rfl rfl (he.get 24 30 (by kernel_rfl) rfl) (by decide) rfl
  · exact fun ac W hL he => stepOk_no rfl rfl (he.get 24 30 (by kernel_rfl) rfl) (by decide) rfl
  · exact fun ac W hL he => stepOk_want rfl (op_pick (b := true) rfl (he.get 24 30 (by kernel_rfl) rfl) rfl)
  · exact fun ac W hL he => stepOk_want rfl (op_move rfl (he.get 29 35 (by kernel_rfl) rfl))
  · exact fun ac W hL he => stepOk_no rfl rfl (he.get 30 36 (by kernel_rfl) rfl) (by decide) rfl
  · exact fun ac W hL he => stepOk_no rfl rfl (he.get 30 36 (by kernel_rfl) rfl) (by decide) rfl
  · exact fun ac W hL he => stepOk_no rfl rfl (he.get 30 36 (by kernel_rfl) rfl) (by decide) rfl
  · exact fun ac W hL he => stepOk_no rfl rfl (he.get 30 36 (by kernel_rfl) rfl) (by decide) rfl
  · exact fun ac W hL he => stepOk_want rfl (op_pick (b := true) rfl (he.get 30 36 (by kernel_rfl) rfl) rfl)
  · exact fun ac W hL he => stepOk_want rfl (op_move rfl (he.get 35 41 (by kernel_rfl) rfl))
  · exact fun ac W hL he => stepOk_no rfl rfl (he.get 36 42 (by kernel_rfl) rfl) (by decide) rfl
  · exact fun ac W hL he => stepOk_no rfl rfl (he.get 36 42 (by kernel_rfl) rfl) (by decide) rfl
  · exact fun ac W hL he => stepOk_no rfl rfl (he.get 36 42 (by kernel_rfl) rfl) (by decide) rfl
  · exact fun ac W hL he => stepOk_no rfl rfl (he.get 36 42 (by kernel_rfl) rfl) (by decide) rfl
  · exact fun ac W hL he => stepOk_want rfl (op_pick (b := true) rfl (he.get 36 42 (by kernel_rfl) rfl) rfl)
  intro xs W hL hxs
  have h41 : xs 41 = .bool true := hxs 41 (by decide)
  clear hxs
  simp only [putL, Nat.reduceAdd, Act.put, List.setIfInBounds_toArray, List.set_cons_succ, List.set_cons_zero, h41]
  clear h41
  go_wp2_with fail
  go_ret
  exact ⟨rfl, hb.trans (hL.below.mono hb.size)⟩
set_option maxRecDepth 100000 in
set_option maxHeartbeats 2000000 in
theorem rright6 (s : Said) (hs : s.wf) (H1 : Hid (∀ W, (binOp .lss 3 (.int .i64 s.kind) (.int .i64 1)).run Tryz.prog W = .ok (.bool false) W)) (H2 : Hid (∀ W, (binOp .gtr 3 (.int .i64 s.kind) (.int .i64 14)).run Tryz.prog W = .ok (.bool false) W)) (HNM : Hid (∀ W, Calls Tryz.prog 28 #[.agg (saidC s)] W fun e w' => e = .returned (.agg (saidC (nmd s s.kind))) ∧ Later W w')) (HNQ : Hid (∀ W, (binOp .neq 29 (.agg (saidC s)) (.agg (saidC (nmd s s.kind)))).run Tryz.prog W = .ok (.bool false) W)) (H4 : Hid (∀ W, Calls Tryz.prog 29 #[.int .i64 (s.n 7)] W fun e w' => w' = W ∧ e = .returned (.bool true))) (H5 : Hid (∀ W, Calls Tryz.prog 29 #[.int .i64 (s.n 8)] W fun e w' => w' = W ∧ e = .returned (.bool true))) (H6 : Hid (∀ W, Calls Tryz.prog 29 #[.int .i64 (s.n 9)] W fun e w' => w' = W ∧ e = .returned (.bool false))) (w : World) : Calls Tryz.prog 11 #[.agg (saidC s)] w fun e w' => e = .returned (.bool false) ∧ Later w w' := by
  have k1 := Row.new w 29 (saidC s)
  have hbx := boxSaid hs w
  have hb := below_new w (.cells (saidC s) 29)
  go_enter Tryz.func11, Tryz.ntmps11
  go_upto_region 1 with fail
  obtain ⟨g, hg⟩ : ∃ q, q = w.heap.size := ⟨_, rfl⟩
  rw [← hg] at k1 ⊢
  clear hbx hg
  generalize w.alloc (.cells (saidC s) 29) = w1 at *
  have c0 : w1.cell? ⟨g, 0, none⟩ = some (.int .i64 s.kind) := (k1.cell 0).trans (saidC_kind hs)
  go_upto_region 2 with fail
  clear c0
  refine (wpIn_wide (n := 0)).1 ?_
  refine wpIn_region_vals wide_wide [Pr.eq (.int .i64 s.kind), Pr.eq (.bool false), Pr.eq (.bool false), Pr.eq (.int .i64 s.kind), Pr.eq (.bool false), Pr.eq (.bool false), Pr.eq (.bool false), Pr.eq (.agg (saidC s)), Pr.eq (.agg (saidC s)), Pr.eq (.agg (saidC (nmd s s.kind))), Pr.eq (.bool false), Pr.eq (.bool false), Pr.eq (.bool false), Pr.eq (.pointer (some ⟨g, offN 7, none⟩)), Pr.eq (.int .i64 (s.n 7)), Pr.eq (.bool true), Pr.eq (.bool false), Pr.eq (.bool false), Pr.eq (.bool false), Pr.eq (.pointer (some ⟨g, offN 8, none⟩)), Pr.eq (.int .i64 (s.n 8)), Pr.eq (.bool true), Pr.eq (.bool false), Pr.eq (.bool false), Pr.eq (.bool false), Pr.eq (.pointer (some ⟨g, offN 9, none⟩)), Pr.eq (.int .i64 (s.n 9)), Pr.eq (.bool false), Pr.eq (.bool true), Pr.eq (.bool true), Pr.eq (.bool true), Pr.eq (undef), Pr.eq (undef), Pr.eq (undef), Pr.eq (undef), Pr.eq (.bool true), Pr.eq (.bool true), Pr.eq (undef), Pr.eq (undef), Pr.eq (undef), Pr.eq (undef), Pr.eq (.bool true)] (by kernel_rfl) (by kernel_rfl) (by kernel_rfl) (by kernel_rfl) (by kernel_rfl) ⟨?_, ?_, ?_, ?_, ?_, ?_, ?_, ?_, ?_, ?_, ?_, ?_, ?_, ?_, ?_, ?_, ?_, ?_, ?_, ?_, ?_, ?_, ?_, ?_, ?_, ?_, ?_, ?_, ?_, ?_, ?_, ?_, ?_, ?_, ?_, ?_, ?_, ?_, ?_, ?_, ?_, ?_, trivial⟩ ?_
  · exact fun ac W hL he => stepOk_want rfl (op_move rfl (he.keep (.tmp 3) (by kernel_rfl)))
  · exact fun ac W hL he => stepOk_want rfl (op_binOp rfl (he.get 0 6 (by kernel_rfl) rfl) rfl rfl (H1.out W) rfl)
  · exact fun ac W hL he => stepOk_want rfl (op_move rfl (he.get 1 7 (by kernel_rfl) rfl))
  · exact fun ac W hL he => stepOk_yes (j := 2) (t := 8) (b := false) rfl rfl (he.get 2 8 (by kernel_rfl) rfl) (op_move rfl (he.keep (.tmp 3) (by kernel_rfl)))
  · exact fun ac W hL he => stepOk_yes (j := 2) (t := 8) (b := false) rfl rfl (he.get 2 8 (by kernel_rfl) rfl) (op_binOp rfl (he.get 3 9 (by kernel_rfl) rfl) rfl rfl (H2.out W) rfl)
  · exact fun ac W hL he => stepOk_want rfl (op_pick (b := false) rfl (he.get 2 8 (by kernel_rfl) rfl) (he.get 4 10 (by kernel_rfl) rfl))
  · exact fun ac W hL he => stepOk_want rfl (op_move rfl (he.get 5 11 (by kernel_rfl) rfl))
  · exact fun ac W hL he => stepOk_yes (j := 6) (t := 12) (b := false) rfl rfl (he.get 6 12 (by kernel_rfl) rfl) (op_load rfl (he.keep (.tmp 1) (by kernel_rfl)) (loadSaid hs (k1.later hL)) rfl)
  · exact fun ac W hL he => stepOk_yes (j := 6) (t := 12) (b := false) rfl rfl (he.get 6 12 (by kernel_rfl) rfl) (op_load rfl (he.keep (.tmp 1) (by kernel_rfl)) (loadSaid hs (k1.later hL)) rfl)
  · intro ac W hL he; refine stepOk_yes (j := 6) (t := 12) (b := false) rfl rfl (he.get 6 12 (by kernel_rfl) rfl) ?_; have e0 : ac.eval (.tmp 14) = .agg (saidC s) := (he.get 8 14 (by kernel_rfl) rfl); exact op_callF (vs := #[.agg (saidC s)]) rfl (by simp only [List.map_toArray, List.map_cons, List.map_nil, e0]) (enters_of Tryz.func28 (by kernel_rfl) rfl) (((HNM.out W)).mono fun e W' ⟨he', hb⟩ => ⟨_, he', hb, rfl⟩)
  · exact fun ac W hL he => stepOk_yes (j := 6) (t := 12) (b := false) rfl rfl (he.get 6 12 (by kernel_rfl) rfl) (op_binOp rfl (he.get 7 13 (by kernel_rfl) rfl) (he.get 9 15 (by kernel_rfl) rfl) (by kernel_rfl) (HNQ.out W) rfl)
  · exact fun ac W hL he => stepOk_want rfl (op_pick (b := false) rfl (he.get 6 12 (by kernel_rfl) rfl) (he.get 10 16 (by kernel_rfl) rfl))
  · exact fun ac W hL he => stepOk_want rfl (op_move rfl (he.get 11 17 (by kernel_rfl) rfl))
  · exact fun ac W hL he => stepOk_yes (j := 12) (t := 18) (b := false) rfl rfl (he.get 12 18 (by kernel_rfl) rfl) (op_fieldAddr rfl (he.keep (.tmp 1) (by kernel_rfl)) (fieldSd 10 296 (by decide)) rfl)
  · exact fun ac W hL he => stepOk_yes (j := 12) (t := 18) (b := false) rfl rfl (he.get 12 18 (by kernel_rfl) rfl) (op_load rfl (he.get 13 19 (by kernel_rfl) rfl) (loadSaidN hs (k1.later hL) 7 (by decide)) rfl)
  · intro ac W hL he; refine stepOk_yes (j := 12) (t := 18) (b := false) rfl rfl (he.get 12 18 (by kernel_rfl) rfl) ?_; have e0 : ac.eval (.tmp 20) = .int .i64 (s.n 7) := (he.get 14 20 (by kernel_rfl) rfl); exact op_callF (vs := #[.int .i64 (s.n 7)]) rfl (by simp only [List.map_toArray, List.map_cons, List.map_nil, e0]) (enters_of Tryz.func29 (by kernel_rfl) rfl) (((H4.out W)).mono fun e W' ⟨hw', he'⟩ => ⟨_, he', hw' ▸ Later.refl _, rfl⟩)
  · exact fun ac W hL he => stepOk_yes (j := 12) (t := 18) (b := false) rfl rfl (he.get 12 18 (by kernel_rfl) rfl) (op_not rfl (he.get 15 21 (by kernel_rfl) rfl) rfl)
  · exact fun ac W hL he => stepOk_want rfl (op_pick (b := false) rfl (he.get 12 18 (by kernel_rfl) rfl) (he.get 16 22 (by kernel_rfl) rfl))
  · exact fun ac W hL he => stepOk_want rfl (op_move rfl (he.get 17 23 (by kernel_rfl) rfl))
  · exact fun ac W hL he => stepOk_yes (j := 18) (t := 24) (b := false) rfl rfl (he.get 18 24 (by kernel_rfl) rfl) (op_fieldAddr rfl (he.keep (.tmp 1) (by kernel_rfl)) (fieldSd 11 297 (by decide)) rfl)
  · exact fun ac W hL he => stepOk_yes (j := 18) (t := 24) (b := false) rfl rfl (he.get 18 24 (by kernel_rfl) rfl) (op_load rfl (he.get 19 25 (by kernel_rfl) rfl) (loadSaidN hs (k1.later hL) 8 (by decide)) rfl)
  · intro ac W hL he; refine stepOk_yes (j := 18) (t := 24) (b := false) rfl rfl (he.get 18 24 (by kernel_rfl) rfl) ?_; have e0 : ac.eval (.tmp 26) = .int .i64 (s.n 8) := (he.get 20 26 (by kernel_rfl) rfl); exact op_callF (vs := #[.int .i64 (s.n 8)]) rfl (by simp only [List.map_toArray, List.map_cons, List.map_nil, e0]) (enters_of Tryz.func29 (by kernel_rfl) rfl) (((H5.out W)).mono fun e W' ⟨hw', he'⟩ => ⟨_, he', hw' ▸ Later.refl _, rfl⟩)
  · exact fun ac W hL he => stepOk_yes (j := 18) (t := 24) (b := false) rfl rfl (he.get 18 24 (by kernel_rfl) rfl) (op_not rfl (he.get 21 27 (by kernel_rfl) rfl) rfl)
  · exact fun ac W hL he => stepOk_want rfl (op_pick (b := false) rfl (he.get 18 24 (by kernel_rfl) rfl) (he.get 22 28 (by kernel_rfl) rfl))
  · exact fun ac W hL he => stepOk_want rfl (op_move rfl (he.get 23 29 (by kernel_rfl) rfl))
  · exact fun ac W hL he => stepOk_yes (j := 24) (t := 30) (b := false) rfl rfl (he.get 24 30 (by kernel_rfl) rfl) (op_fieldAddr rfl (he.keep (.tmp 1) (by kernel_rfl)) (fieldSd 12 298 (by decide)) rfl)
  · exact fun ac W hL he => stepOk_yes (j := 24) (t := 30) (b := false) rfl rfl (he.get 24 30 (by kernel_rfl) rfl) (op_load rfl (he.get 25 31 (by kernel_rfl) rfl) (loadSaidN hs (k1.later hL) 9 (by decide)) rfl)
  · intro ac W hL he; refine stepOk_yes (j := 24) (t := 30) (b := false) rfl rfl (he.get 24 30 (by kernel_rfl) rfl) ?_; have e0 : ac.eval (.tmp 32) = .int .i64 (s.n 9) := (he.get 26 32 (by kernel_rfl) rfl); exact op_callF (vs := #[.int .i64 (s.n 9)]) rfl (by simp only [List.map_toArray, List.map_cons, List.map_nil, e0]) (enters_of Tryz.func29 (by kernel_rfl) rfl) (((H6.out W)).mono fun e W' ⟨hw', he'⟩ => ⟨_, he', hw' ▸ Later.refl _, rfl⟩)
  · exact fun ac W hL he => stepOk_yes (j := 24) (t := 30) (b := false) rfl rfl (he.get 24 30 (by kernel_rfl) rfl) (op_not rfl (he.get 27 33 (by kernel_rfl) rfl) rfl)
  · exact fun ac W hL he => stepOk_want rfl (op_pick (b := false) rfl (he.get 24 30 (by kernel_rfl) rfl) (he.get 28 34 (by kernel_rfl) rfl))
  · exact fun ac W hL he => stepOk_want rfl (op_move rfl (he.get 29 35 (by kernel_rfl) rfl))
  · exact fun ac W hL he => stepOk_no rfl rfl (he.get 30 36 (by kernel_rfl) rfl) (by decide) rfl
  · exact fun ac W hL he => stepOk_no rfl rfl (he.get 30 36 (by kernel_rfl) rfl) (by decide) rfl
  · exact fun ac W hL he => stepOk_no rfl rfl (he.get 30 36 (by kernel_rfl) rfl) (by decide) rfl
  · exact fun ac W hL he => stepOk_no rfl rfl (he.get 30 36 (by kernel_rfl) rfl) (by decide) rfl
  · exact fun ac W hL he => stepOk_want rfl (op_pick (b := true) rfl (he.get 30 36 (by kernel_rfl) rfl) rfl)
  · exact fun ac W hL he => stepOk_want rfl (op_move rfl (he.get 35 41 (by kernel_rfl) rfl))
  · exact fun ac W hL he => stepOk_no rfl rfl (he.get 36 42 (by kernel_rfl) rfl) (by decide) rfl
  · exact fun ac W hL he => stepOk_no rfl rfl (he.get 36 42 (by kernel_rfl) rfl) (by decide) rfl
  · exact fun ac W hL he => stepOk_no rfl rfl (he.get 36 42 (by kernel_rfl) rfl) (by decide) rfl
  · exact fun ac W hL he => stepOk_no rfl rfl (he.get 36 42 (by kernel_rfl) rfl) (by decide) rfl
  · exact fun ac W hL he => stepOk_want rfl (op_pick (b := true) rfl (he.get 36 42 (by kernel_rfl) rfl) rfl)
  intro xs W hL hxs
  have h41 : xs 41 = .bool true := hxs 41 (by decide)
  clear hxs
  simp only [putL, Nat.reduceAdd, Act.put, List.setIfInBounds_toArray, List.set_cons_succ, List.set_cons_zero, h41]
  clear h41
  go_wp2_with fail
  go_ret
  exact ⟨rfl, hb.trans (hL.below.mono hb.size)⟩
set_option maxRecDepth 100000 in
set_option maxHeartbeats 2000000 in
theorem rright7 (s : Said) (hs : s.wf) (H1 : Hid (∀ W, (binOp .lss 3 (.int .i64 s.kind) (.int .i64 1)).run Tryz.prog W = .ok (.bool false) W)) (H2 : Hid (∀ W, (binOp .gtr 3 (.int .i64 s.kind) (.int .i64 14)).run Tryz.prog W = .ok (.bool false) W)) (HNM : Hid (∀ W, Calls Tryz.prog 28 #[.agg (saidC s)] W fun e w' => e = .returned (.agg (saidC (nmd s s.kind))) ∧ Later W w')) (HNQ : Hid (∀ W, (binOp .neq 29 (.agg (saidC s)) (.agg (saidC (nmd s s.kind)))).run Tryz.prog W = .ok (.bool false) W)) (H4 : Hid (∀ W, Calls Tryz.prog 29 #[.int .i64 (s.n 7)] W fun e w' => w' = W ∧ e = .returned (.bool true))) (H5 : Hid (∀ W, Calls Tryz.prog 29 #[.int .i64 (s.n 8)] W fun e w' => w' = W ∧ e = .returned (.bool true))) (H6 : Hid (∀ W, Calls Tryz.prog 29 #[.int .i64 (s.n 9)] W fun e w' => w' = W ∧ e = .returned (.bool true))) (H7 : Hid (∀ W, Calls Tryz.prog 29 #[.int .i64 (s.n 10)] W fun e w' => w' = W ∧ e = .returned (.bool false))) (w : World) : Calls Tryz.prog 11 #[.agg (saidC s)] w fun e w' => e = .returned (.bool false) ∧ Later w w' := by
  have k1 := Row.new w 29 (saidC s)
  have hbx := boxSaid hs w
  have hb := below_new w (.cells (saidC s) 29)
  go_enter Tryz.func11, Tryz.ntmps11
  go_upto_region 1 with fail
  obtain ⟨g, hg⟩ : ∃ q, q = w.heap.size := ⟨_, rfl⟩
  rw [← hg] at k1 ⊢
  clear hbx hg
  generalize w.alloc (.cells (saidC s) 29) = w1 at *
  have c0 : w1.cell? ⟨g, 0, none⟩ = some (.int .i64 s.kind) := (k1.cell 0).trans (saidC_kind hs)
  go_upto_region 2 with fail
  clear c0
  refine (wpIn_wide (n := 0)).1 ?_
  refine wpIn_region_vals wide_wide [Pr.eq (.int .i64 s.kind), Pr.eq (.bool false), Pr.eq (.bool false), Pr.eq (.int .i64 s.kind), Pr.eq (.bool false), Pr.eq (.bool false), Pr.eq (.bool false), Pr.eq (.agg (saidC s)), Pr.eq (.agg (saidC s)), Pr.eq (.agg (saidC (nmd s s.kind))), Pr.eq (.bool false), Pr.eq (.bool false), Pr.eq (.bool false), Pr.eq (.pointer (some ⟨g, offN 7, none⟩)), Pr.eq (.int .i64 (s.n 7)), Pr.eq (.bool true), Pr.eq (.bool false), Pr.eq (.bool false), Pr.eq (.bool false), Pr.eq (.pointer (some ⟨g, offN 8, none⟩)), Pr.eq (.int .i64 (s.n 8)), Pr.eq (.bool true), Pr.eq (.bool false), Pr.eq (.bool false), Pr.eq (.bool false), Pr.eq (.pointer (some ⟨g, offN 9, none⟩)), Pr.eq (.int .i64 (s.n 9)), Pr.eq (.bool true), Pr.eq (.bool false), Pr.eq (.bool false), Pr.eq (.bool false), Pr.eq (.pointer (some ⟨g, offN 10, none⟩)), Pr.eq (.int .i64 (s.n 10)), Pr.eq (.bool false), Pr.eq (.bool true), Pr.eq (.bool true), Pr.eq (.bool true), Pr.eq (undef), Pr.eq (undef), Pr.eq (undef), Pr.eq (undef), Pr.eq (.bool true)] (by kernel_rfl) (by kernel_rfl) (by kernel_rfl) (by kernel_rfl) (by kernel_rfl) ⟨?_, ?_, ?_, ?_, ?_, ?_, ?_, ?_, ?_, ?_, ?_, ?_, ?_, ?_, ?_, ?_, ?_, ?_, ?_, ?_, ?_, ?_, ?_, ?_, ?_, ?_, ?_, ?_, ?_, ?_, ?_, ?_, ?_, ?_, ?_, ?_, ?_, ?_, ?_, ?_, ?_, ?_, trivial⟩ ?_
  · exact fun ac W hL he => stepOk_want rfl (op_move rfl (he.keep (.tmp 3) (by kernel_rfl)))
  · exact fun ac W hL he => stepOk_want rfl (op_binOp rfl (he.get 0 6 (by kernel_rfl) rfl) rfl rfl (H1.out W) rfl)
  · exact fun ac W hL he => stepOk_want rfl (op_move rfl (he.get 1 7 (by kernel_rfl) rfl))
  · exact fun ac W hL he => stepOk_yes (j := 2) (t := 8) (b := false) rfl rfl (he.get 2 8 (by kernel_rfl) rfl) (op_move rfl (he.keep (.tmp 3) (by kernel_rfl)))
  · exact fun ac W hL he => stepOk_yes (j := 2) (t := 8) (b := false) rfl rfl (he.get 2 8 (by kernel_rfl) rfl) (op_binOp rfl (he.get 3 9 (by kernel_rfl) rfl) rfl rfl (H2.out W) rfl)
  · exact fun ac W hL he => stepOk_want rfl (op_pick (b := false) rfl (he.get 2 8 (by kernel_rfl) rfl) (he.get 4 10 (by kernel_rfl) rfl))
  · exact fun ac W hL he => stepOk_want rfl (op_move rfl (he.get 5 11 (by kernel_rfl) rfl))
  · exact fun ac W hL he => stepOk_yes (j := 6) (t := 12) (b := false) rfl rfl (he.get 6 12 (by kernel_rfl) rfl) (op_load rfl (he.keep (.tmp 1) (by kernel_rfl)) (loadSaid hs (k1.later hL)) rfl)
  · exact fun ac W hL he => stepOk_yes (j := 6) (t := 12) (b := false) rfl rfl (he.get 6 12 (by kernel_rfl) rfl) (op_load rfl (he.keep (.tmp 1) (by kernel_rfl)) (loadSaid hs (k1.later hL)) rfl)
  · intro ac W hL he; refine stepOk_yes (j := 6) (t := 12) (b := false) rfl rfl (he.get 6 12 (by kernel_rfl) rfl) ?_; have e0 : ac.eval (.tmp 14) = .agg (saidC s) := (he.get 8 14 (by kernel_rfl) rfl); exact op_callF (vs := #[.agg (saidC s)]) rfl (by simp only [List.map_toArray, List.map_cons, List.map_nil, e0]) (enters_of Tryz.func28 (by kernel_rfl) rfl) (((HNM.out W)).mono fun e W' ⟨he', hb⟩ => ⟨_, he', hb, rfl⟩)
  · exact fun ac W hL he => stepOk_yes (j := 6) (t := 12) (b := false) rfl rfl (he.get 6 12 (by kernel_rfl) rfl) (op_binOp rfl (he.get 7 13 (by kernel_rfl) rfl) (he.get 9 15 (by kernel_rfl) rfl) (by kernel_rfl) (HNQ.out W) rfl)
  · exact fun ac W hL he => stepOk_want rfl (op_pick (b := false) rfl (he.get 6 12 (by kernel_rfl) rfl) (he.get 10 16 (by kernel_rfl) rfl))
  · exact fun ac W hL he => stepOk_want rfl (op_move rfl (he.get 11 17 (by kernel_rfl) rfl))
  · exact fun ac W hL he => stepOk_yes (j := 12) (t := 18) (b := false) rfl rfl (he.get 12 18 (by kernel_rfl) rfl) (op_fieldAddr rfl (he.keep (.tmp 1) (by kernel_rfl)) (fieldSd 10 296 (by decide)) rfl)
  · exact fun ac W hL he => stepOk_yes (j := 12) (t := 18) (b := false) rfl rfl (he.get 12 18 (by kernel_rfl) rfl) (op_load rfl (he.get 13 19 (by kernel_rfl) rfl) (loadSaidN hs (k1.later hL) 7 (by decide)) rfl)
  · intro ac W hL he; refine stepOk_yes (j := 12) (t := 18) (b := false) rfl rfl (he.get 12 18 (by kernel_rfl) rfl) ?_; have e0 : ac.eval (.tmp 20) = .int .i64 (s.n 7) := (he.get 14 20 (by kernel_rfl) rfl); exact op_callF (vs := #[.int .i64 (s.n 7)]) rfl (by simp only [List.map_toArray, List.map_cons, List.map_nil, e0]) (enters_of Tryz.func29 (by kernel_rfl) rfl) (((H4.out W)).mono fun e W' ⟨hw', he'⟩ => ⟨_, he', hw' ▸ Later.refl _, rfl⟩)
  · exact fun ac W hL he => stepOk_yes (j := 12) (t := 18) (b := false) rfl rfl (he.get 12 18 (by kernel_rfl) rfl) (op_not rfl (he.get 15 21 (by kernel_rfl) rfl) rfl)
  · exact fun ac W hL he => stepOk_want rfl (op_pick (b := false) rfl (he.get 12 18 (by kernel_rfl) rfl) (he.get 16 22 (by kernel_rfl) rfl))
  · exact fun ac W hL he => stepOk_want rfl (op_move rfl (he.get 17 23 (by kernel_rfl) rfl))
  · exact fun ac W hL he => stepOk_yes (j := 18) (t := 24) (b := false) rfl rfl (he.get 18 24 (by kernel_rfl) rfl) (op_fieldAddr rfl (he.keep (.tmp 1) (by kernel_rfl)) (fieldSd 11 297 (by decide)) rfl)
  · exact fun ac W hL he => stepOk_yes (j := 18) (t := 24) (b := false) rfl rfl (he.get 18 24 (by kernel_rfl) rfl) (op_load rfl (he.get 19 25 (by kernel_rfl) rfl) (loadSaidN hs (k1.later hL) 8 (by decide)) rfl)
  · intro ac W hL he; refine stepOk_yes (j := 18) (t := 24) (b := false) rfl rfl (he.get 18 24 (by kernel_rfl) rfl) ?_; have e0 : ac.eval (.tmp 26) = .int .i64 (s.n 8) := (he.get 20 26 (by kernel_rfl) rfl); exact op_callF (vs := #[.int .i64 (s.n 8)]) rfl (by simp only [List.map_toArray, List.map_cons, List.map_nil, e0]) (enters_of Tryz.func29 (by kernel_rfl) rfl) (((H5.out W)).mono fun e W' ⟨hw', he'⟩ => ⟨_, he', hw' ▸ Later.refl _, rfl⟩)
  · exact fun ac W hL he => stepOk_yes (j := 18) (t := 24) (b := false) rfl rfl (he.get 18 24 (by kernel_rfl) rfl) (op_not rfl (he.get 21 27 (by kernel_rfl) rfl) rfl)
  · exact fun ac W hL he => stepOk_want rfl (op_pick (b := false) rfl (he.get 18 24 (by kernel_rfl) rfl) (he.get 22 28 (by kernel_rfl) rfl))
  · exact fun ac W hL he => stepOk_want rfl (op_move rfl (he.get 23 29 (by kernel_rfl) rfl))
  · exact fun ac W hL he => stepOk_yes (j := 24) (t := 30) (b := false) rfl rfl (he.get 24 30 (by kernel_rfl) rfl) (op_fieldAddr rfl (he.keep (.tmp 1) (by kernel_rfl)) (fieldSd 12 298 (by decide)) rfl)
  · exact fun ac W hL he => stepOk_yes (j := 24) (t := 30) (b := false) rfl rfl (he.get 24 30 (by kernel_rfl) rfl) (op_load rfl (he.get 25 31 (by kernel_rfl) rfl) (loadSaidN hs (k1.later hL) 9 (by decide)) rfl)
  · intro ac W hL he; refine stepOk_yes (j := 24) (t := 30) (b := false) rfl rfl (he.get 24 30 (by kernel_rfl) rfl) ?_; have e0 : ac.eval (.tmp 32) = .int .i64 (s.n 9) := (he.get 26 32 (by kernel_rfl) rfl); exact op_callF (vs := #[.int .i64 (s.n 9)]) rfl (by simp only [List.map_toArray, List.map_cons, List.map_nil, e0]) (enters_of Tryz.func29 (by kernel_rfl) rfl) (((H6.out W)).mono fun e W' ⟨hw', he'⟩ => ⟨_, he', hw' ▸ Later.refl _, rfl⟩)
  · exact fun ac W hL he => stepOk_yes (j := 24) (t := 30) (b := false) rfl rfl (he.get 24 30 (by kernel_rfl) rfl) (op_not rfl (he.get 27 33 (by kernel_rfl) rfl) rfl)
  · exact fun ac W hL he => stepOk_want rfl (op_pick (b := false) rfl (he.get 24 30 (by kernel_rfl) rfl) (he.get 28 34 (by kernel_rfl) rfl))
  · exact fun ac W hL he => stepOk_want rfl (op_move rfl (he.get 29 35 (by kernel_rfl) rfl))
  · exact fun ac W hL he => stepOk_yes (j := 30) (t := 36) (b := false) rfl rfl (he.get 30 36 (by kernel_rfl) rfl) (op_fieldAddr rfl (he.keep (.tmp 1) (by kernel_rfl)) (fieldSd 13 299 (by decide)) rfl)
  · exact fun ac W hL he => stepOk_yes (j := 30) (t := 36) (b := false) rfl rfl (he.get 30 36 (by kernel_rfl) rfl) (op_load rfl (he.get 31 37 (by kernel_rfl) rfl) (loadSaidN hs (k1.later hL) 10 (by decide)) rfl)
  · intro ac W hL he; refine stepOk_yes (j := 30) (t := 36) (b := false) rfl rfl (he.get 30 36 (by kernel_rfl) rfl) ?_; have e0 : ac.eval (.tmp 38) = .int .i64 (s.n 10) := (he.get 32 38 (by kernel_rfl) rfl); exact op_callF (vs := #[.int .i64 (s.n 10)]) rfl (by simp only [List.map_toArray, List.map_cons, List.map_nil, e0]) (enters_of Tryz.func29 (by kernel_rfl) rfl) (((H7.out W)).mono fun e W' ⟨hw', he'⟩ => ⟨_, he', hw' ▸ Later.refl _, rfl⟩)
  · exact fun ac W hL he => stepOk_yes (j := 30) (t := 36) (b := false) rfl rfl (he.get 30 36 (by kernel_rfl) rfl) (op_not rfl (he.get 33 39 (by kernel_rfl) rfl) rfl)
  · exact fun ac W hL he => stepOk_want rfl (op_pick (b := false) rfl (he.get 30 36 (by kernel_rfl) rfl) (he.get 34 40 (by kernel_rfl) rfl))
  · exact fun ac W hL he => stepOk_want rfl (op_move rfl (he.get 35 41 (by kernel_rfl) rfl))
  · exact fun ac W hL he => stepOk_no rfl rfl (he.get 36 42 (by kernel_rfl) rfl) (by decide) rfl
  · exact fun ac W hL he => stepOk_no rfl rfl (he.get 36 42 (by kernel_rfl) rfl) (by decide) rfl
  · exact fun ac W hL he => stepOk_no rfl rfl (he.get 36 42 (by kernel_rfl) rfl) (by decide) rfl
  · exact fun ac W hL he => stepOk_no rfl rfl (he.get 36 42 (by kernel_rfl) rfl) (by decide) rfl
  · exact fun ac W hL he => stepOk_want rfl (op_pick (b := true) rfl (he.get 36 42 (by kernel_rfl) rfl) rfl)
  intro xs W hL hxs
  have h41 : xs 41 = .bool true := hxs 41 (by decide)
  clear hxs
  simp only [putL, Nat.reduceAdd, Act.put, List.setIfInBounds_toArray, List.set_cons_succ, List.set_cons_zero, h41]
  clear h41
  go_wp2_with fail
  go_ret
  exact ⟨rfl, hb.trans (hL.below.mono hb.size)⟩
set_option maxRecDepth 100000 in
set_option maxHeartbeats 2000000 in
theorem rright8 (s : Said) (hs : s.wf) (H1 : Hid (∀ W, (binOp .lss 3 (.int .i64 s.kind) (.int .i64 1)).run Tryz.prog W = .ok (.bool false) W)) (H2 : Hid (∀ W, (binOp .gtr 3 (.int .i64 s.kind) (.int .i64 14)).run Tryz.prog W = .ok (.bool false) W)) (HNM : Hid (∀ W, Calls Tryz.prog 28 #[.agg (saidC s)] W fun e w' => e = .returned (.agg (saidC (nmd s s.kind))) ∧ Later W w')) (HNQ : Hid (∀ W, (binOp .neq 29 (.agg (saidC s)) (.agg (saidC (nmd s s.kind)))).run Tryz.prog W = .ok (.bool false) W)) (H4 : Hid (∀ W, Calls Tryz.prog 29 #[.int .i64 (s.n 7)] W fun e w' => w' = W ∧ e = .returned (.bool true))) (H5 : Hid (∀ W, Calls Tryz.prog 29 #[.int .i64 (s.n 8)] W fun e w' => w' = W ∧ e = .returned (.bool true))) (H6 : Hid (∀ W, Calls Tryz.prog 29 #[.int .i64 (s.n 9)] W fun e w' => w' = W ∧ e = .returned (.bool true))) (H7 : Hid (∀ W, Calls Tryz.prog 29 #[.int .i64 (s.n 10)] W fun e w' => w' = W ∧ e = .returned (.bool true))) (H8 : Hid (∀ W, Calls Tryz.prog 30 #[.int .i64 (s.n 6)] W fun e w' => w' = W ∧ e = .returned (.bool false))) (w : World) : Calls Tryz.prog 11 #[.agg (saidC s)] w fun e w' => e = .returned (.bool false) ∧ Later w w' := by
  have k1 := Row.new w 29 (saidC s)
  have hbx := boxSaid hs w
  have hb := below_new w (.cells (saidC s) 29)
  go_enter Tryz.func11, Tryz.ntmps11
  go_upto_region 1 with fail
  obtain ⟨g, hg⟩ : ∃ q, q = w.heap.size := ⟨_, rfl⟩
  rw [← hg] at k1 ⊢
  clear hbx hg
  generalize w.alloc (.cells (saidC s) 29) = w1 at *
  have c0 : w1.cell? ⟨g, 0, none⟩ = some (.int .i64 s.kind) := (k1.cell 0).trans (saidC_kind hs)
  go_upto_region 2 with fail
  clear c0
  refine (wpIn_wide (n := 0)).1 ?_
  refine wpIn_region_vals wide_wide [Pr.eq (.int .i64 s.kind), Pr.eq (.bool false), Pr.eq (.bool false), Pr.eq (.int .i64 s.kind), Pr.eq (.bool false), Pr.eq (.bool false), Pr.eq (.bool false), Pr.eq (.agg (saidC s)), Pr.eq (.agg (saidC s)), Pr.eq (.agg (saidC (nmd s s.kind))), Pr.eq (.bool false), Pr.eq (.bool false), Pr.eq (.bool false), Pr.eq (.pointer (some ⟨g, offN 7, none⟩)), Pr.eq (.int .i64 (s.n 7)), Pr.eq (.bool true), Pr.eq (.bool false), Pr.eq (.bool false), Pr.eq (.bool false), Pr.eq (.pointer (some ⟨g, offN 8, none⟩)), Pr.eq (.int .i64 (s.n 8)), Pr.eq (.bool true), Pr.eq (.bool false), Pr.eq (.bool false), Pr.eq (.bool false), Pr.eq (.pointer (some ⟨g, offN 9, none⟩)), Pr.eq (.int .i64 (s.n 9)), Pr.eq (.bool true), Pr.eq (.bool false), Pr.eq (.bool false), Pr.eq (.bool false), Pr.eq (.pointer (some ⟨g, offN 10, none⟩)), Pr.eq (.int .i64 (s.n 10)), Pr.eq (.bool true), Pr.eq (.bool false), Pr.eq (.bool false), Pr.eq (.bool false), Pr.eq (.pointer (some ⟨g, offN 6, none⟩)), Pr.eq (.int .i64 (s.n 6)), Pr.eq (.bool false), Pr.eq (.bool true), Pr.eq (.bool true)] (by kernel_rfl) (by kernel_rfl) (by kernel_rfl) (by kernel_rfl) (by kernel_rfl) ⟨?_, ?_, ?_, ?_, ?_, ?_, ?_, ?_, ?_, ?_, ?_, ?_, ?_, ?_, ?_, ?_, ?_, ?_, ?_, ?_, ?_, ?_, ?_, ?_, ?_, ?_, ?_, ?_, ?_, ?_, ?_, ?_, ?_, ?_, ?_, ?_, ?_, ?_, ?_, ?_, ?_, ?_, trivial⟩ ?_
  · exact fun ac W hL he => stepOk_want rfl (op_move rfl (he.keep (.tmp 3) (by kernel_rfl)))
  · exact fun ac W hL he => stepOk_want rfl (op_binOp rfl (he.get 0 6 (by kernel_rfl) rfl) rfl rfl (H1.out W) rfl)
  · exact fun ac W hL he => stepOk_want rfl (op_move rfl (he.get 1 7 (by kernel_rfl) rfl))
  · exact fun ac W hL he => stepOk_yes (j := 2) (t := 8) (b := false) rfl rfl (he.get 2 8 (by kernel_rfl) rfl) (op_move rfl (he.keep (.tmp 3) (by kernel_rfl)))
  · exact fun ac W hL he => stepOk_yes (j := 2) (t := 8) (b := false) rfl rfl (he.get 2 8 (by kernel_rfl) rfl) (op_binOp rfl (he.get 3 9 (by kernel_rfl) rfl) rfl rfl (H2.out W) rfl)
  · exact fun ac W hL he => stepOk_want rfl (op_pick (b := false) rfl (he.get 2 8 (by kernel_rfl) rfl) (he.get 4 10 (by kernel_rfl) rfl))
  · exact fun ac W hL he => stepOk_want rfl (op_move rfl (he.get 5 11 (by kernel_rfl) rfl))
  · exact fun ac W hL he => stepOk_yes (j := 6) (t := 12) (b := false) rfl rfl (he.get 6 12 (by kernel_rfl) rfl) (op_load rfl (he.keep (.tmp 1) (by kernel_rfl)) (loadSaid hs (k1.later hL)) rfl)
  · exact fun ac W hL he => stepOk_yes (j := 6) (t := 12) (b := false) rfl rfl (he.get 6 12 (by kernel_rfl) rfl) (op_load rfl (he.keep (.tmp 1) (by kernel_rfl)) (loadSaid hs (k1.later hL)) rfl)
  · intro ac W hL he; refine stepOk_yes (j := 6) (t := 12) (b := false) rfl rfl (he.get 6 12 (by kernel_rfl) rfl) ?_; have e0 : ac.eval (.tmp 14) = .agg (saidC s) := (he.get 8 14 (by kernel_rfl) rfl); exact op_callF (vs := #[.agg (saidC s)]) rfl (by simp only [List.map_toArray, List.map_cons, List.map_nil, e0]) (enters_of Tryz.func28 (by kernel_rfl) rfl) (((HNM.out W)).mono fun e W' ⟨he', hb⟩ => ⟨_, he', hb, rfl⟩)
  · exact fun ac W hL he => stepOk_yes (j := 6) (t := 12) (b := false) rfl rfl (he.get 6 12 (by kernel_rfl) rfl) (op_binOp rfl (he.get 7 13 (by kernel_rfl) rfl) (he.get 9 15 (by kernel_rfl) rfl) (by kernel_rfl) (HNQ.out W) rfl)
  · exact fun ac W hL he => stepOk_want rfl (op_pick (b := false) rfl (he.get 6 12 (by kernel_rfl) rfl) (he.get 10 16 (by kernel_rfl) rfl))
  · exact fun ac W hL he => stepOk_want rfl (op_move rfl (he.get 11 17 (by kernel_rfl) rfl))
  · exact fun ac W hL he => stepOk_yes (j := 12) (t := 18) (b := false) rfl rfl (he.get 12 18 (by kernel_rfl) rfl) (op_fieldAddr rfl (he.keep (.tmp 1) (by kernel_rfl)) (fieldSd 10 296 (by decide)) rfl)
  · exact fun ac W hL he => stepOk_yes (j := 12) (t := 18) (b := false) rfl rfl (he.get 12 18 (by kernel_rfl) rfl) (op_load rfl (he.get 13 19 (by kernel_rfl) rfl) (loadSaidN hs (k1.later hL) 7 (by decide)) rfl)
  · intro ac W hL he; refine stepOk_yes (j := 12) (t := 18) (b := false) rfl rfl (he.get 12 18 (by kernel_rfl) rfl) ?_; have e0 : ac.eval (.tmp 20) = .int .i64 (s.n 7) := (he.get 14 20 (by kernel_rfl) rfl); exact op_callF (vs := #[.int .i64 (s.n 7)]) rfl (by simp only [List.map_toArray, List.map_cons, List.map_nil, e0]) (enters_of Tryz.func29 (by kernel_rfl) rfl) (((H4.out W)).mono fun e W' ⟨hw', he'⟩ => ⟨_, he', hw' ▸ Later.refl _, rfl⟩)
  · exact fun ac W hL he => stepOk_yes (j := 12) (t := 18) (b := false) rfl rfl (he.get 12 18 (by kernel_rfl) rfl) (op_not rfl (he.get 15 21 (by kernel_rfl) rfl) rfl)
  · exact fun ac W hL he => stepOk_want rfl (op_pick (b := false) rfl (he.get 12 18 (by kernel_rfl) rfl) (he.get 16 22 (by kernel_rfl) rfl))
  · exact fun ac W hL he => stepOk_want rfl (op_move rfl (he.get 17 23 (by kernel_rfl) rfl))
  · exact fun ac W hL he => stepOk_yes (j := 18) (t := 24) (b := false) rfl rfl (he.get 18 24 (by kernel_rfl) rfl) (op_fieldAddr rfl (he.keep (.tmp 1) (by kernel_rfl)) (fieldSd 11 297 (by decide)) rfl)
  · exact fun ac W hL he => stepOk_yes (j := 18) (t := 24) (b := false) rfl rfl (he.get 18 24 (by kernel_rfl) rfl) (op_load rfl (he.get 19 25 (by kernel_rfl) rfl) (loadSaidN hs (k1.later hL) 8 (by decide)) rfl)
  · intro ac W hL he; refine stepOk_yes (j := 18) (t := 24) (b := false) rfl rfl (he.get 18 24 (by kernel_rfl) rfl) ?_; have e0 : ac.eval (.tmp 26) = .int .i64 (s.n 8) := (he.get 20 26 (by kernel_rfl) rfl); exact op_callF (vs := #[.int .i64 (s.n 8)]) rfl (by simp only [List.map_toArray, List.map_cons, List.map_nil, e0]) (enters_of Tryz.func29 (by kernel_rfl) rfl) (((H5.out W)).mono fun e W' ⟨hw', he'⟩ => ⟨_, he', hw' ▸ Later.refl _, rfl⟩)
  · exact fun ac W hL he => stepOk_yes (j := 18) (t := 24) (b := false) rfl rfl (he.get 18 24 (by kernel_rfl) rfl) (op_not rfl (he.get 21 27 (by kernel_rfl) rfl) rfl)
  · exact fun ac W hL he => stepOk_want rfl (op_pick (b := false) rfl (he.get 18 24 (by kernel_rfl) rfl) (he.get 22 28 (by kernel_rfl) rfl))
  · exact fun ac W hL he => stepOk_want rfl (op_move rfl (he.get 23 29 (by kernel_rfl) rfl))
  · exact fun ac W hL he => stepOk_yes (j := 24) (t := 30) (b := false) rfl rfl (he.get 24 30 (by kernel_rfl) rfl) (op_fieldAddr rfl (he.keep (.tmp 1) (by kernel_rfl)) (fieldSd 12 298 (by decide)) rfl)
  · exact fun ac W hL he => stepOk_yes (j := 24) (t := 30) (b := false) rfl rfl (he.get 24 30 (by kernel_rfl) rfl) (op_load rfl (he.get 25 31 (by kernel_rfl) rfl) (loadSaidN hs (k1.later hL) 9 (by decide)) rfl)
  · intro ac W hL he; refine stepOk_yes (j := 24) (t := 30) (b := false) rfl rfl (he.get 24 30 (by kernel_rfl) rfl) ?_; have e0 : ac.eval (.tmp 32) = .int .i64 (s.n 9) := (he.get 26 32 (by kernel_rfl) rfl); exact op_callF (vs := #[.int .i64 (s.n 9)]) rfl (by simp only [List.map_toArray, List.map_cons, List.map_nil, e0]) (enters_of Tryz.func29 (by kernel_rfl) rfl) (((H6.out W)).mono fun e W' ⟨hw', he'⟩ => ⟨_, he', hw' ▸ Later.refl _, rfl⟩)
  · exact fun ac W hL he => stepOk_yes (j := 24) (t := 30) (b := false) rfl rfl (he.get 24 30 (by kernel_rfl) rfl) (op_not rfl (he.get 27 33 (by kernel_rfl) rfl) rfl)
  · exact fun ac W hL he => stepOk_want rfl (op_pick (b := false) rfl (he.get 24 30 (by kernel_rfl) rfl) (he.get 28 34 (by kernel_rfl) rfl))
  · exact fun ac W hL he => stepOk_want rfl (op_move rfl (he.get 29 35 (by kernel_rfl) rfl))
  · exact fun ac W hL he => stepOk_yes (j := 30) (t := 36) (b := false) rfl rfl (he.get 30 36 (by kernel_rfl) rfl) (op_fieldAddr rfl (he.keep (.tmp 1) (by kernel_rfl)) (fieldSd 13 299 (by decide)) rfl)
  · exact fun ac W hL he => stepOk_yes (j := 30) (t := 36) (b := false) rfl rfl (he.get 30 36 (by kernel_rfl) rfl) (op_load rfl (he.get 31 37 (by kernel_rfl) rfl) (loadSaidN hs (k1.later hL) 10 (by decide)) rfl)
  · intro ac W hL he; refine stepOk_yes (j := 30) (t := 36) (b := false) rfl rfl (he.get 30 36 (by kernel_rfl) rfl) ?_; have e0 : ac.eval (.tmp 38) = .int .i64 (s.n 10) := (he.get 32 38 (by kernel_rfl) rfl); exact op_callF (vs := #[.int .i64 (s.n 10)]) rfl (by simp only [List.map_toArray, List.map_cons, List.map_nil, e0]) (enters_of Tryz.func29 (by kernel_rfl) rfl) (((H7.out W)).mono fun e W' ⟨hw', he'⟩ => ⟨_, he', hw' ▸ Later.refl _, rfl⟩)
  · exact fun ac W hL he => stepOk_yes (j := 30) (t := 36) (b := false) rfl rfl (he.get 30 36 (by kernel_rfl) rfl) (op_not rfl (he.get 33 39 (by kernel_rfl) rfl) rfl)
  · exact fun ac W hL he => stepOk_want rfl (op_pick (b := false) rfl (he.get 30 36 (by kernel_rfl) rfl) (he.get 34 40 (by kernel_rfl) rfl))
  · exact fun ac W hL he => stepOk_want rfl (op_move rfl (he.get 35 41 (by kernel_rfl) rfl))
  · exact fun ac W hL he => stepOk_yes (j := 36) (t := 42) (b := false) rfl rfl (he.get 36 42 (by kernel_rfl) rfl) (op_fieldAddr rfl (he.keep (.tmp 1) (by kernel_rfl)) (fieldSd 3 103 (by decide)) rfl)
  · exact fun ac W hL he => stepOk_yes (j := 36) (t := 42) (b := false) rfl rfl (he.get 36 42 (by kernel_rfl) rfl) (op_load rfl (he.get 37 43 (by kernel_rfl) rfl) (loadSaidN hs (k1.later hL) 6 (by decide)) rfl)
  · intro ac W hL he; refine stepOk_yes (j := 36) (t := 42) (b := false) rfl rfl (he.get 36 42 (by kernel_rfl) rfl) ?_; have e0 : ac.eval (.tmp 44) = .int .i64 (s.n 6) := (he.get 38 44 (by kernel_rfl) rfl); exact op_callF (vs := #[.int .i64 (s.n 6)]) rfl (by simp only [List.map_toArray, List.map_cons, List.map_nil, e0]) (enters_of Tryz.func30 (by kernel_rfl) rfl) (((H8.out W)).mono fun e W' ⟨hw', he'⟩ => ⟨_, he', hw' ▸ Later.refl _, rfl⟩)
  · exact fun ac W hL he => stepOk_yes (j := 36) (t := 42) (b := false) rfl rfl (he.get 36 42 (by kernel_rfl) rfl) (op_not rfl (he.get 39 45 (by kernel_rfl) rfl) rfl)
  · exact fun ac W hL he => stepOk_want rfl (op_pick (b := false) rfl (he.get 36 42 (by kernel_rfl) rfl) (he.get 40 46 (by kernel_rfl) rfl))
  intro xs W hL hxs
  have h41 : xs 41 = .bool true := hxs 41 (by decide)
  clear hxs
  simp only [putL, Nat.reduceAdd, Act.put, List.setIfInBounds_toArray, List.set_cons_succ, List.set_cons_zero, h41]
  clear h41
  go_wp2_with fail
  go_ret
  exact ⟨rfl, hb.trans (hL.below.mono hb.size)⟩
set_option maxRecDepth 100000 in
set_option maxHeartbeats 2000000 in
theorem rright9 (s : Said) (hs : s.wf) (H1 : Hid (∀ W, (binOp .lss 3 (.int .i64 s.kind) (.int .i64 1)).run Tryz.prog W = .ok (.bool false) W)) (H2 : Hid (∀ W, (binOp .gtr 3 (.int .i64 s.kind) (.int .i64 14)).run Tryz.prog W = .ok (.bool false) W)) (HNM : Hid (∀ W, Calls Tryz.prog 28 #[.agg (saidC s)] W fun e w' => e = .returned (.agg (saidC (nmd s s.kind))) ∧ Later W w')) (HNQ : Hid (∀ W, (binOp .neq 29 (.agg (saidC s)) (.agg (saidC (nmd s s.kind)))).run Tryz.prog W = .ok (.bool false) W)) (H4 : Hid (∀ W, Calls Tryz.prog 29 #[.int .i64 (s.n 7)] W fun e w' => w' = W ∧ e = .returned (.bool true))) (H5 : Hid (∀ W, Calls Tryz.prog 29 #[.int .i64 (s.n 8)] W fun e w' => w' = W ∧ e = .returned (.bool true))) (H6 : Hid (∀ W, Calls Tryz.prog 29 #[.int .i64 (s.n 9)] W fun e w' => w' = W ∧ e = .returned (.bool true))) (H7 : Hid (∀ W, Calls Tryz.prog 29 #[.int .i64 (s.n 10)] W fun e w' => w' = W ∧ e = .returned (.bool true))) (H8 : Hid (∀ W, Calls Tryz.prog 30 #[.int .i64 (s.n 6)] W fun e w' => w' = W ∧ e = .returned (.bool true))) (hk : 1 ≤ s.kind ∧ s.kind ≤ 14) (hm : s.route.length ≤ 9223372036854775807) (w : World) : Calls Tryz.prog 11 #[.agg (saidC s)] w fun e w' => e = .returned (.bool (specialR s.kind s)) ∧ Later w w' := by
  have k1 := Row.new w 29 (saidC s)
  have hbx := boxSaid hs w
  have hb := below_new w (.cells (saidC s) 29)
  go_enter Tryz.func11, Tryz.ntmps11
  go_upto_region 1 with fail
  obtain ⟨g, hg⟩ : ∃ q, q = w.heap.size := ⟨_, rfl⟩
  rw [← hg] at k1 ⊢
  clear hbx hg
  generalize w.alloc (.cells (saidC s) 29) = w1 at *
  have c0 : w1.cell? ⟨g, 0, none⟩ = some (.int .i64 s.kind) := (k1.cell 0).trans (saidC_kind hs)
  go_upto_region 2 with fail
  clear c0
  refine (wpIn_wide (n := 0)).1 ?_
  refine wpIn_region_vals wide_wide [Pr.eq (.int .i64 s.kind), Pr.eq (.bool false), Pr.eq (.bool false), Pr.eq (.int .i64 s.kind), Pr.eq (.bool false), Pr.eq (.bool false), Pr.eq (.bool false), Pr.eq (.agg (saidC s)), Pr.eq (.agg (saidC s)), Pr.eq (.agg (saidC (nmd s s.kind))), Pr.eq (.bool false), Pr.eq (.bool false), Pr.eq (.bool false), Pr.eq (.pointer (some ⟨g, offN 7, none⟩)), Pr.eq (.int .i64 (s.n 7)), Pr.eq (.bool true), Pr.eq (.bool false), Pr.eq (.bool false), Pr.eq (.bool false), Pr.eq (.pointer (some ⟨g, offN 8, none⟩)), Pr.eq (.int .i64 (s.n 8)), Pr.eq (.bool true), Pr.eq (.bool false), Pr.eq (.bool false), Pr.eq (.bool false), Pr.eq (.pointer (some ⟨g, offN 9, none⟩)), Pr.eq (.int .i64 (s.n 9)), Pr.eq (.bool true), Pr.eq (.bool false), Pr.eq (.bool false), Pr.eq (.bool false), Pr.eq (.pointer (some ⟨g, offN 10, none⟩)), Pr.eq (.int .i64 (s.n 10)), Pr.eq (.bool true), Pr.eq (.bool false), Pr.eq (.bool false), Pr.eq (.bool false), Pr.eq (.pointer (some ⟨g, offN 6, none⟩)), Pr.eq (.int .i64 (s.n 6)), Pr.eq (.bool true), Pr.eq (.bool false), Pr.eq (.bool false)] (by kernel_rfl) (by kernel_rfl) (by kernel_rfl) (by kernel_rfl) (by kernel_rfl) ⟨?_, ?_, ?_, ?_, ?_, ?_, ?_, ?_, ?_, ?_, ?_, ?_, ?_, ?_, ?_, ?_, ?_, ?_, ?_, ?_, ?_, ?_, ?_, ?_, ?_, ?_, ?_, ?_, ?_, ?_, ?_, ?_, ?_, ?_, ?_, ?_, ?_, ?_, ?_, ?_, ?_, ?_, trivial⟩ ?_
  · exact fun ac W hL he => stepOk_want rfl (op_move rfl (he.keep (.tmp 3) (by kernel_rfl)))
  · exact fun ac W hL he => stepOk_want rfl (op_binOp rfl (he.get 0 6 (by kernel_rfl) rfl) rfl rfl (H1.out W) rfl)
  · exact fun ac W hL he => stepOk_want rfl (op_move rfl (he.get 1 7 (by kernel_rfl) rfl))
  · exact fun ac W hL he => stepOk_yes (j := 2) (t := 8) (b := false) rfl rfl (he.get 2 8 (by kernel_rfl) rfl) (op_move rfl (he.keep (.tmp 3) (by kernel_rfl)))
  · exact fun ac W hL he => stepOk_yes (j := 2) (t := 8) (b := false) rfl rfl (he.get 2 8 (by kernel_rfl) rfl) (op_binOp rfl (he.get 3 9 (by kernel_rfl) rfl) rfl rfl (H2.out W) rfl)
  · exact fun ac W hL he => stepOk_want rfl (op_pick (b := false) rfl (he.get 2 8 (by kernel_rfl) rfl) (he.get 4 10 (by kernel_rfl) rfl))
  · exact fun ac W hL he => stepOk_want rfl (op_move rfl (he.get 5 11 (by kernel_rfl) rfl))
  · exact fun ac W hL he => stepOk_yes (j := 6) (t := 12) (b := false) rfl rfl (he.get 6 12 (by kernel_rfl) rfl) (op_load rfl (he.keep (.tmp 1) (by kernel_rfl)) (loadSaid hs (k1.later hL)) rfl)
  · exact fun ac W hL he => stepOk_yes (j := 6) (t := 12) (b := false) rfl rfl (he.get 6 12 (by kernel_rfl) rfl) (op_load rfl (he.keep (.tmp 1) (by kernel_rfl)) (loadSaid hs (k1.later hL)) rfl)
  · intro ac W hL he; refine stepOk_yes (j := 6) (t := 12) (b := false) rfl rfl (he.get 6 12 (by kernel_rfl) rfl) ?_; have e0 : ac.eval (.tmp 14) = .agg (saidC s) := (he.get 8 14 (by kernel_rfl) rfl); exact op_callF (vs := #[.agg (saidC s)]) rfl (by simp only [List.map_toArray, List.map_cons, List.map_nil, e0]) (enters_of Tryz.func28 (by kernel_rfl) rfl) (((HNM.out W)).mono fun e W' ⟨he', hb⟩ => ⟨_, he', hb, rfl⟩)
  · exact fun ac W hL he => stepOk_yes (j := 6) (t := 12) (b := false) rfl rfl (he.get 6 12 (by kernel_rfl) rfl) (op_binOp rfl (he.get 7 13 (by kernel_rfl) rfl) (he.get 9 15 (by kernel_rfl) rfl) (by kernel_rfl) (HNQ.out W) rfl)
  · exact fun ac W hL he => stepOk_want rfl (op_pick (b := false) rfl (he.get 6 12 (by kernel_rfl) rfl) (he.get 10 16 (by kernel_rfl) rfl))
  · exact fun ac W hL he => stepOk_want rfl (op_move rfl (he.get 11 17 (by kernel_rfl) rfl))
  · exact fun ac W hL he => stepOk_yes (j := 12) (t := 18) (b := false) rfl rfl (he.get 12 18 (by kernel_rfl) rfl) (op_fieldAddr rfl (he.keep (.tmp 1) (by kernel_rfl)) (fieldSd 10 296 (by decide)) rfl)
  · exact fun ac W hL he => stepOk_yes (j := 12) (t := 18) (b := false) rfl rfl (he.get 12 18 (by kernel_rfl) rfl) (op_load rfl (he.get 13 19 (by kernel_rfl) rfl) (loadSaidN hs (k1.later hL) 7 (by decide)) rfl)
  · intro ac W hL he; refine stepOk_yes (j := 12) (t := 18) (b := false) rfl rfl (he.get 12 18 (by kernel_rfl) rfl) ?_; have e0 : ac.eval (.tmp 20) = .int .i64 (s.n 7) := (he.get 14 20 (by kernel_rfl) rfl); exact op_callF (vs := #[.int .i64 (s.n 7)]) rfl (by simp only [List.map_toArray, List.map_cons, List.map_nil, e0]) (enters_of Tryz.func29 (by kernel_rfl) rfl) (((H4.out W)).mono fun e W' ⟨hw', he'⟩ => ⟨_, he', hw' ▸ Later.refl _, rfl⟩)
  · exact fun ac W hL he => stepOk_yes (j := 12) (t := 18) (b := false) rfl rfl (he.get 12 18 (by kernel_rfl) rfl) (op_not rfl (he.get 15 21 (by kernel_rfl) rfl) rfl)
  · exact fun ac W hL he => stepOk_want rfl (op_pick (b := false) rfl (he.get 12 18 (by kernel_rfl) rfl) (he.get 16 22 (by kernel_rfl) rfl))
  · exact fun ac W hL he => stepOk_want rfl (op_move rfl (he.get 17 23 (by kernel_rfl) rfl))
  · exact fun ac W hL he => stepOk_yes (j := 18) (t := 24) (b := false) rfl rfl (he.get 18 24 (by kernel_rfl) rfl) (op_fieldAddr rfl (he.keep (.tmp 1) (by kernel_rfl)) (fieldSd 11 297 (by decide)) rfl)
  · exact fun ac W hL he => stepOk_yes (j := 18) (t := 24) (b := false) rfl rfl (he.get 18 24 (by kernel_rfl) rfl) (op_load rfl (he.get 19 25 (by kernel_rfl) rfl) (loadSaidN hs (k1.later hL) 8 (by decide)) rfl)
  · intro ac W hL he; refine stepOk_yes (j := 18) (t := 24) (b := false) rfl rfl (he.get 18 24 (by kernel_rfl) rfl) ?_; have e0 : ac.eval (.tmp 26) = .int .i64 (s.n 8) := (he.get 20 26 (by kernel_rfl) rfl); exact op_callF (vs := #[.int .i64 (s.n 8)]) rfl (by simp only [List.map_toArray, List.map_cons, List.map_nil, e0]) (enters_of Tryz.func29 (by kernel_rfl) rfl) (((H5.out W)).mono fun e W' ⟨hw', he'⟩ => ⟨_, he', hw' ▸ Later.refl _, rfl⟩)
  · exact fun ac W hL he => stepOk_yes (j := 18) (t := 24) (b := false) rfl rfl (he.get 18 24 (by kernel_rfl) rfl) (op_not rfl (he.get 21 27 (by kernel_rfl) rfl) rfl)
  · exact fun ac W hL he => stepOk_want rfl (op_pick (b := false) rfl (he.get 18 24 (by kernel_rfl) rfl) (he.get 22 28 (by kernel_rfl) rfl))
  · exact fun ac W hL he => stepOk_want rfl (op_move rfl (he.get 23 29 (by kernel_rfl) rfl))
  · exact fun ac W hL he => stepOk_yes (j := 24) (t := 30) (b := false) rfl rfl (he.get 24 30 (by kernel_rfl) rfl) (op_fieldAddr rfl (he.keep (.tmp 1) (by kernel_rfl)) (fieldSd 12 298 (by decide)) rfl)
  · exact fun ac W hL he => stepOk_yes (j := 24) (t := 30) (b := false) rfl rfl (he.get 24 30 (by kernel_rfl) rfl) (op_load rfl (he.get 25 31 (by kernel_rfl) rfl) (loadSaidN hs (k1.later hL) 9 (by decide)) rfl)
  · intro ac W hL he; refine stepOk_yes (j := 24) (t := 30) (b := false) rfl rfl (he.get 24 30 (by kernel_rfl) rfl) ?_; have e0 : ac.eval (.tmp 32) = .int .i64 (s.n 9) := (he.get 26 32 (by kernel_rfl) rfl); exact op_callF (vs := #[.int .i64 (s.n 9)]) rfl (by simp only [List.map_toArray, List.map_cons, List.map_nil, e0]) (enters_of Tryz.func29 (by kernel_rfl) rfl) (((H6.out W)).mono fun e W' ⟨hw', he'⟩ => ⟨_, he', hw' ▸ Later.refl _, rfl⟩)
  · exact fun ac W hL he => stepOk_yes (j := 24) (t := 30) (b := false) rfl rfl (he.get 24 30 (by kernel_rfl) rfl) (op_not rfl (he.get 27 33 (by kernel_rfl) rfl) rfl)
  · exact fun ac W hL he => stepOk_want rfl (op_pick (b := false) rfl (he.get 24 30 (by kernel_rfl) rfl) (he.get 28 34 (by kernel_rfl) rfl))
  · exact fun ac W hL he => stepOk_want rfl (op_move rfl (he.get 29 35 (by kernel_rfl) rfl))
  · exact fun ac W hL he => stepOk_yes (j := 30) (t := 36) (b := false) rfl rfl (he.get 30 36 (by kernel_rfl) rfl) (op_fieldAddr rfl (he.keep (.tmp 1) (by kernel_rfl)) (fieldSd 13 299 (by decide)) rfl)
  · exact fun ac W hL he => stepOk_yes (j := 30) (t := 36) (b := false) rfl rfl (he.get 30 36 (by kernel_rfl) rfl) (op_load rfl (he.get 31 37 (by kernel_rfl) rfl) (loadSaidN hs (k1.later hL) 10 (by decide)) rfl)
  · intro ac W hL he; refine stepOk_yes (j := 30) (t := 36) (b := false) rfl rfl (he.get 30 36 (by kernel_rfl) rfl) ?_; have e0 : ac.eval (.tmp 38) = .int .i64 (s.n 10) := (he.get 32 38 (by kernel_rfl) rfl); exact op_callF (vs := #[.int .i64 (s.n 10)]) rfl (by simp only [List.map_toArray, List.map_cons, List.map_nil, e0]) (enters_of Tryz.func29 (by kernel_rfl) rfl) (((H7.out W)).mono fun e W' ⟨hw', he'⟩ => ⟨_, he', hw' ▸ Later.refl _, rfl⟩)
  · exact fun ac W hL he => stepOk_yes (j := 30) (t := 36) (b := false) rfl rfl (he.get 30 36 (by kernel_rfl) rfl) (op_not rfl (he.get 33 39 (by kernel_rfl) rfl) rfl)
  · exact fun ac W hL he => stepOk_want rfl (op_pick (b := false) rfl (he.get 30 36 (by kernel_rfl) rfl) (he.get 34 40 (by kernel_rfl) rfl))
  · exact fun ac W hL he => stepOk_want rfl (op_move rfl (he.get 35 41 (by kernel_rfl) rfl))
  · exact fun ac W hL he => stepOk_yes (j := 36) (t := 42) (b := false) rfl rfl (he.get 36 42 (by kernel_rfl) rfl) (op_fieldAddr rfl (he.keep (.tmp 1) (by kernel_rfl)) (fieldSd 3 103 (by decide)) rfl)
  · exact fun ac W hL he => stepOk_yes (j := 36) (t := 42) (b := false) rfl rfl (he.get 36 42 (by kernel_rfl) rfl) (op_load rfl (he.get 37 43 (by kernel_rfl) rfl) (loadSaidN hs (k1.later hL) 6 (by decide)) rfl)
  · intro ac W hL he; refine stepOk_yes (j := 36) (t := 42) (b := false) rfl rfl (he.get 36 42 (by kernel_rfl) rfl) ?_; have e0 : ac.eval (.tmp 44) = .int .i64 (s.n 6) := (he.get 38 44 (by kernel_rfl) rfl); exact op_callF (vs := #[.int .i64 (s.n 6)]) rfl (by simp only [List.map_toArray, List.map_cons, List.map_nil, e0]) (enters_of Tryz.func30 (by kernel_rfl) rfl) (((H8.out W)).mono fun e W' ⟨hw', he'⟩ => ⟨_, he', hw' ▸ Later.refl _, rfl⟩)
  · exact fun ac W hL he => stepOk_yes (j := 36) (t := 42) (b := false) rfl rfl (he.get 36 42 (by kernel_rfl) rfl) (op_not rfl (he.get 39 45 (by kernel_rfl) rfl) rfl)
  · exact fun ac W hL he => stepOk_want rfl (op_pick (b := false) rfl (he.get 36 42 (by kernel_rfl) rfl) (he.get 40 46 (by kernel_rfl) rfl))
  intro xs W hL hxs
  have h41 : xs 41 = .bool false := hxs 41 (by decide)
  clear hxs
  simp only [putL, Nat.reduceAdd, Act.put, List.setIfInBounds_toArray, List.set_cons_succ, List.set_cons_zero, h41]
  clear h41
  have kW := k1.later hL
  clear H1 H2 HNM HNQ H4 H5 H6 H7 H8 k1
  have hK : s.kind = 1 ∨ s.kind = 2 ∨ s.kind = 3 ∨ s.kind = 4 ∨ s.kind = 5 ∨ s.kind = 6 ∨ s.kind = 7 ∨ s.kind = 8 ∨ s.kind = 9 ∨ s.kind = 10 ∨ s.kind = 11 ∨ s.kind = 12 ∨ s.kind = 13 ∨ s.kind = 14 := by omega
  clear hk
  rcases hK with h | h | h | h | h | h | h | h | h | h | h | h | h | h
  · rw [h]
    obtain ⟨b1, d1⟩ : ∃ b, rtB s = b := ⟨_, rfl⟩
    obtain ⟨b2, d2⟩ : ∃ b, decide (0 ≤ s.reserve) = b := ⟨_, rfl⟩
    obtain ⟨b3, d3⟩ : ∃ b, decide (s.reserve ≤ s.cap / 10) = b := ⟨_, rfl⟩
    obtain ⟨b4, d4⟩ : ∃ b, decide (s.amount ≤ s.cap - s.fee - s.reserve) = b := ⟨_, rfl⟩
    have hv : specialR s.kind s = (b1 && (b2 && (b3 && b4))) := by rw [h, ← d1, ← d2, ← d3, ← d4]; rfl
    have HV := Lib.hid hv
    have HT := Lib.hid (fun W => d1 ▸ refT11_any s hs W)
    have HLT := Lib.hid (loadSaidT hs kW)
    have HC := Lib.hid (fun (X : World) (hX : Later W X) (j : Nat) (hj : j < 12) => ((kW.later hX).cell _).trans (saidC_n hs j hj))
    have hbd : b1 = true → 1000 ≤ s.cap ∧ s.cap ≤ 1125899906842624 ∧ 0 ≤ s.fee ∧ s.fee ≤ 400 := fun e => by
      rw [e] at d1
      unfold rtB termsB at d1
      simp only [Bool.and_eq_true, decide_eq_true_eq] at d1
      obtain ⟨_, _, _, ⟨⟨⟨⟨⟨⟨⟨⟨⟨_, _⟩, h1⟩, h2⟩, _⟩, _⟩, h3⟩, h4⟩, _⟩, _⟩⟩ := d1
      exact ⟨h1, h2, h3, h4⟩
    clear hv d1 kW
    cases b1
    · clear hbd d2 d3 d4
      go_upto_region 6 with fail
      refine wp_region_lit ?_
      refine wpList_fieldA rfl 29 1 (.tmp 1) rfl (.pointer (some ⟨g, 0, none⟩)) rfl (fieldSd 1 1 (by decide)) ?_
      refine wpList_load rfl 27 (.tmp 51) rfl (.pointer (some ⟨g, 1, none⟩)) rfl HLT.out ?_
      go_wp2_with (first
        | (go_at_call 31; refine (HT.out _).mono ?_; rintro e w5 ⟨rfl, hL5⟩)
        | fail)
      go_ret
      exact ⟨by rw [← h, HV.out]; rfl, hb.trans ((hL.trans (hL5.below.mono hL.size)).mono hb.size)⟩
    obtain ⟨hc1, hc2, hf1, hf2⟩ := hbd rfl
    clear hbd
    cases b2
    · clear d3 d4
      go_upto_region 6 with fail
      refine wp_region_lit ?_
      refine wpList_fieldA rfl 29 1 (.tmp 1) rfl (.pointer (some ⟨g, 0, none⟩)) rfl (fieldSd 1 1 (by decide)) ?_
      refine wpList_load rfl 27 (.tmp 51) rfl (.pointer (some ⟨g, 1, none⟩)) rfl HLT.out ?_
      go_wp2_with (first
        | (go_at_call 31; refine (HT.out _).mono ?_; rintro e w5 ⟨rfl, hL5⟩; have c102 : w5.cell? ⟨g, 102, none⟩ = some (.int .i64 s.reserve) := HC.out w5 hL5 5 (by decide))
        | fail)
      go_ret
      exact ⟨by rw [← h, HV.out]; rfl, hb.trans ((hL.trans (hL5.below.mono hL.size)).mono hb.size)⟩
    cases b3
    · clear d4
      go_upto_region 6 with fail
      refine wp_region_lit ?_
      refine wpList_fieldA rfl 29 1 (.tmp 1) rfl (.pointer (some ⟨g, 0, none⟩)) rfl (fieldSd 1 1 (by decide)) ?_
      refine wpList_load rfl 27 (.tmp 51) rfl (.pointer (some ⟨g, 1, none⟩)) rfl HLT.out ?_
      go_wp2_with (first
        | (go_at_call 31; refine (HT.out _).mono ?_; rintro e w5 ⟨rfl, hL5⟩; have c102 : w5.cell? ⟨g, 102, none⟩ = some (.int .i64 s.reserve) := HC.out w5 hL5 5 (by decide); have c34 : w5.cell? ⟨g, 34, none⟩ = some (.int .i64 s.cap) := HC.out w5 hL5 1 (by decide))
        | fail)
      go_ret
      exact ⟨by rw [← h, HV.out]; rfl, hb.trans ((hL.trans (hL5.below.mono hL.size)).mono hb.size)⟩
    · have hr1 := of_decide_eq_true d2
      have hr2 := of_decide_eq_true d3
      go_upto_region 6 with fail
      refine wp_region_lit ?_
      refine wpList_fieldA rfl 29 1 (.tmp 1) rfl (.pointer (some ⟨g, 0, none⟩)) rfl (fieldSd 1 1 (by decide)) ?_
      refine wpList_load rfl 27 (.tmp 51) rfl (.pointer (some ⟨g, 1, none⟩)) rfl HLT.out ?_
      go_wp2_with (first
        | (go_at_call 31; refine (HT.out _).mono ?_; rintro e w5 ⟨rfl, hL5⟩; have c102 : w5.cell? ⟨g, 102, none⟩ = some (.int .i64 s.reserve) := HC.out w5 hL5 5 (by decide); have c34 : w5.cell? ⟨g, 34, none⟩ = some (.int .i64 s.cap) := HC.out w5 hL5 1 (by decide); have c103 : w5.cell? ⟨g, 103, none⟩ = some (.int .i64 s.amount) := HC.out w5 hL5 6 (by decide); have c36 : w5.cell? ⟨g, 36, none⟩ = some (.int .i64 s.fee) := HC.out w5 hL5 3 (by decide))
        | fail)
      go_ret
      exact ⟨by rw [← h, HV.out]; rfl, hb.trans ((hL.trans (hL5.below.mono hL.size)).mono hb.size)⟩
  · have HV : Hid (specialR s.kind s = true) := Lib.hid (by rw [h]; rfl)
    rw [h]
    go_wp2_with fail
    go_ret
    exact ⟨by rw [HV.out]; rfl, hb.trans (hL.below.mono hb.size)⟩
  · have HV : Hid (specialR s.kind s = decide (s.index < 24)) := Lib.hid (by rw [h]; rfl)
    rw [h]
    have c1 : W.cell? ⟨g, 298, none⟩ = some (.int .i64 s.index) := (kW.cell _).trans (saidC_n hs 9 (by decide))
    go_wp2_with fail
    go_ret
    exact ⟨by rw [HV.out]; rfl, hb.trans (hL.below.mono hb.size)⟩
  · have HV : Hid (specialR s.kind s = true) := Lib.hid (by rw [h]; rfl)
    rw [h]
    go_wp2_with fail
    go_ret
    exact ⟨by rw [HV.out]; rfl, hb.trans (hL.below.mono hb.size)⟩
  · have HV : Hid (specialR s.kind s = true) := Lib.hid (by rw [h]; rfl)
    rw [h]
    go_wp2_with fail
    go_ret
    exact ⟨by rw [HV.out]; rfl, hb.trans (hL.below.mono hb.size)⟩
  · rw [h]
    have c1 : W.cell? ⟨g, 103, none⟩ = some (.int .i64 s.amount) := (kW.cell _).trans (saidC_n hs 6 (by decide))
    have c2 : W.cell? ⟨g, 299, none⟩ = some (.int .i64 s.expiry) := (kW.cell _).trans (saidC_n hs 10 (by decide))
    have c3 : W.cell? ⟨g, 301, none⟩ = some (.string ⟨s.route.toArray⟩) := (kW.cell _).trans (saidC_route hs)
    have hsz : (⟨s.route.toArray⟩ : ByteArray).size = s.route.length := by simp [ByteArray.size]
    obtain ⟨b1, h1⟩ : ∃ b, decide (0 < s.amount) = b := ⟨_, rfl⟩
    obtain ⟨b2, h2⟩ : ∃ b, decide (0 < s.expiry) = b := ⟨_, rfl⟩
    obtain ⟨b3, h3⟩ : ∃ b, decide (s.route.length ≤ 512) = b := ⟨_, rfl⟩
    have h3' : decide ((s.route.length : Int) ≤ 512) = b3 := by rw [← h3]; exact decide_eq_decide.2 (by omega)
    have hv : specialR s.kind s = (b1 && b2 && b3) := by rw [h, ← h1, ← h2, ← h3]; rfl
    have HV := Lib.hid hv
    clear hv kW
    cases b1
    · go_wp2_with fail
      go_ret
      exact ⟨by rw [← h, HV.out]; rfl, hb.trans (hL.below.mono hb.size)⟩
    cases b2
    · go_wp2_with fail
      go_ret
      exact ⟨by rw [← h, HV.out]; rfl, hb.trans (hL.below.mono hb.size)⟩
    · go_wp2_with fail
      go_ret
      exact ⟨by rw [← h, HV.out]; rfl, hb.trans (hL.below.mono hb.size)⟩
  · have HV : Hid (specialR s.kind s = true) := Lib.hid (by rw [h]; rfl)
    rw [h]
    go_wp2_with fail
    go_ret
    exact ⟨by rw [HV.out]; rfl, hb.trans (hL.below.mono hb.size)⟩
  · rw [h]
    have c1 : W.cell? ⟨g, 300, none⟩ = some (.int .i64 s.code) := (kW.cell _).trans (saidC_n hs 11 (by decide))
    obtain ⟨b1, d1⟩ : ∃ b, decide (1 ≤ s.code) = b := ⟨_, rfl⟩
    obtain ⟨b2, d2⟩ : ∃ b, decide (s.code ≤ 999) = b := ⟨_, rfl⟩
    have hv : specialR s.kind s = (b1 && b2) := by rw [h, ← d1, ← d2]; rfl
    have HV := Lib.hid hv
    clear hv
    cases b1
    · go_wp2_with fail
      go_ret
      exact ⟨by rw [← h, HV.out]; rfl, hb.trans (hL.below.mono hb.size)⟩
    · go_wp2_with fail
      go_ret
      exact ⟨by rw [← h, HV.out]; rfl, hb.trans (hL.below.mono hb.size)⟩
  · have HV : Hid (specialR s.kind s = true) := Lib.hid (by rw [h]; rfl)
    rw [h]
    go_wp2_with fail
    go_ret
    exact ⟨by rw [HV.out]; rfl, hb.trans (hL.below.mono hb.size)⟩
  · have HV : Hid (specialR s.kind s = true) := Lib.hid (by rw [h]; rfl)
    rw [h]
    go_wp2_with fail
    go_ret
    exact ⟨by rw [HV.out]; rfl, hb.trans (hL.below.mono hb.size)⟩
  · have HV : Hid (specialR s.kind s = true) := Lib.hid (by rw [h]; rfl)
    rw [h]
    go_wp2_with fail
    go_ret
    exact ⟨by rw [HV.out]; rfl, hb.trans (hL.below.mono hb.size)⟩
  · have HV : Hid (specialR s.kind s = true) := Lib.hid (by rw [h]; rfl)
    rw [h]
    go_wp2_with fail
    go_ret
    exact ⟨by rw [HV.out]; rfl, hb.trans (hL.below.mono hb.size)⟩
  · have HV : Hid (specialR s.kind s = true) := Lib.hid (by rw [h]; rfl)
    rw [h]
    go_wp2_with fail
    go_ret
    exact ⟨by rw [HV.out]; rfl, hb.trans (hL.below.mono hb.size)⟩
  · rw [h]
    have c1 : W.cell? ⟨g, 300, none⟩ = some (.int .i64 s.code) := (kW.cell _).trans (saidC_n hs 11 (by decide))
    obtain ⟨b1, d1⟩ : ∃ b, decide (1 ≤ s.code) = b := ⟨_, rfl⟩
    obtain ⟨b2, d2⟩ : ∃ b, decide (s.code ≤ 999) = b := ⟨_, rfl⟩
    have hv : specialR s.kind s = (b1 && b2) := by rw [h, ← d1, ← d2]; rfl
    have HV := Lib.hid hv
    clear hv
    cases b1
    · go_wp2_with fail
      go_ret
      exact ⟨by rw [← h, HV.out]; rfl, hb.trans (hL.below.mono hb.size)⟩
    · go_wp2_with fail
      go_ret
      exact ⟨by rw [← h, HV.out]; rfl, hb.trans (hL.below.mono hb.size)⟩
end Go.Proofs.YtcajhdmppfiaeaaGreat
namespace Go.Proofs.YtcajhdmppfiaeaaGreat
open Go.RowKit Ms
set_option maxHeartbeats 1000000 in
theorem nmd_eq (s : Said) (h1 : s.kind ≠ 1) (hk : isKind s.kind = true) : decide (zeroed (flds s.kind) s = Ms.blank s.kind) = decide (s = nmd s s.kind) := by
  have hK : s.kind = 2 ∨ s.kind = 3 ∨ s.kind = 4 ∨ s.kind = 5 ∨ s.kind = 6 ∨ s.kind = 7 ∨ s.kind = 8 ∨ s.kind = 9 ∨ s.kind = 10 ∨ s.kind = 11 ∨ s.kind = 12 ∨ s.kind = 13 ∨ s.kind = 14 := by
    unfold isKind at hk
    simp only [Bool.and_eq_true, decide_eq_true_eq] at hk
    omega
  rw [decide_eq_decide]
  obtain ⟨a1, a2, a3, a4, a5, a6, a7, a8, a9, a10, a11, a12, a13, a14, a15, a16, a17, a18, a19, a20, a21, a22, a23⟩ := s
  simp only at hK
  clear h1 hk
  rcases hK with rfl | rfl | rfl | rfl | rfl | rfl | rfl | rfl | rfl | rfl | rfl | rfl | rfl
  all_goals
    simp [flds, zeroed, zero1, Ms.blank, nmd, nmAt, nmL, Said.setN, Said.setH, Said.setR]
  all_goals (constructor <;> intro h <;> simp_all)
theorem right_doc (s : Said) : right s = (isKind s.kind && (decide (s = nmd s s.kind) && (within s.id && (within s.number && (within s.index && (within s.expiry && (amt s.amount && specialR s.kind s))))))) := by
  cases hk : isKind s.kind with
  | false => unfold right; rw [hk]; rfl
  | true =>
    by_cases h1 : s.kind = 1
    · unfold right
      rw [h1]
      obtain ⟨a1, a2, a3, a4, a5, a6, a7, a8, a9, a10, a11, a12, a13, a14, a15, a16, a17, a18, a19, a20, a21, a22, a23⟩ := s
      simp only at h1
      subst h1
      rw [Bool.eq_iff_iff]
      simp [flds, zeroed, zero1, Ms.blank, nmd, nmAt, nmL, cpT, Said.setN, Said.setH, Said.setR, special, specialR, rtB, isKind]
      constructor
      · rintro ⟨⟨⟨⟨p1, p2, p3, p4, p5, p6, p7, p8, p9, p10, p11, p12, p13⟩, ⟨⟨q1, q2⟩, q3⟩, q4⟩, q5⟩, ⟨r1, r2, r3⟩, r4⟩
        exact ⟨⟨p4, p5, p6, p7, p8, p9, p10, p11, p12, p13⟩, q1, q2, q3, q4, q5, ⟨p1, p2, p3, r1⟩, r2, r3, r4⟩
      · rintro ⟨⟨p4, p5, p6, p7, p8, p9, p10, p11, p12, p13⟩, q1, q2, q3, q4, q5, ⟨p1, p2, p3, r1⟩, r2, r3, r4⟩
        exact ⟨⟨⟨⟨p1, p2, p3, p4, p5, p6, p7, p8, p9, p10, p11, p12, p13⟩, ⟨⟨q1, q2⟩, q3⟩, q4⟩, q5⟩, ⟨r1, r2, r3⟩, r4⟩
    · have e := nmd_eq s h1 hk
      have e2 : special s = specialR s.kind s := by
        rw [special_eq]
        unfold specialK specialR
        rw [if_neg h1, if_neg h1]
      unfold right
      rw [e, e2, hk]
      simp only [Bool.true_and, Bool.and_assoc]
theorem nmd_wf (s : Said) (hs : s.wf) (hk : 1 ≤ s.kind ∧ s.kind ≤ 14) : (nmd s s.kind).wf := by
  have hK : s.kind = 1 ∨ s.kind = 2 ∨ s.kind = 3 ∨ s.kind = 4 ∨ s.kind = 5 ∨ s.kind = 6 ∨ s.kind = 7 ∨ s.kind = 8 ∨ s.kind = 9 ∨ s.kind = 10 ∨ s.kind = 11 ∨ s.kind = 12 ∨ s.kind = 13 ∨ s.kind = 14 := by omega
  have hb := blank_wf
  have hh := hs
  have hN : ∀ {t : Said} j v, t.wf → (t.setN j v).wf := fun j v h => Said.setN_wf h j v
  have hR : ∀ {t : Said} v, t.wf → (t.setR v).wf := fun v h => Said.setR_wf h v
  have hH : ∀ {t : Said} j, j < 9 → t.wf → (t.setH j (s.h j)).wf := fun j hj h => Said.setH_wf h j _ (hs j hj)
  rcases hK with h | h | h | h | h | h | h | h | h | h | h | h | h | h
  all_goals rw [h]
  · exact hH 4 (by decide) (hH 3 (by decide) (hN 6 _ (hN 5 _ (cpT_wf hs (hb _)))))
  · exact hH 4 (by decide) (hH 3 (by decide) (hH 5 (by decide) (hb _)))
  · exact hH 7 (by decide) (hN 9 _ (hH 6 (by decide) (hb _)))
  · exact hH 7 (by decide) (hb _)
  · exact hb _
  · exact hR _ (hN 10 _ (hH 6 (by decide) (hN 6 _ (hN 7 _ (hb _)))))
  · exact hH 8 (by decide) (hN 7 _ (hb _))
  · exact hN 11 _ (hN 7 _ (hb _))
  · exact hH 7 (by decide) (hN 8 _ (hb _))
  · exact hH 4 (by decide) (hH 8 (by decide) (hN 8 _ (hb _)))
  · exact hN 7 _ (hN 8 _ (hb _))
  · exact hb _
  · exact hH 7 (by decide) (hN 6 _ (hb _))
  · exact hN 11 _ (hb _)
theorem refRight_any (s : Said) (hs : s.wf) (hm : s.route.length ≤ 9223372036854775807) (w : World) : Calls Tryz.prog 11 #[.agg (saidC s)] w fun e w' => e = .returned (.bool (right s)) ∧ Later w w' := by
  rw [right_doc]
  have L1 := lssI s.kind 1
  have L2 := gtrI s.kind 14
  by_cases h1 : s.kind < 1
  · rw [show isKind s.kind = false by unfold isKind; rw [decide_eq_false (by omega)]; rfl]
    exact rright1 s hs (Lib.hid fun W => (decide_eq_true h1 ▸ L1 W)) w
  have G1 : Hid (∀ W, (binOp .lss 3 (.int .i64 s.kind) (.int .i64 1)).run Tryz.prog W = .ok (.bool false) W) := Lib.hid fun W => (decide_eq_false h1 ▸ L1 W)
  by_cases h2 : 14 < s.kind
  · rw [show isKind s.kind = false by unfold isKind; rw [decide_eq_false (p := s.kind ≤ 14) (by omega), Bool.and_false]]
    exact rright2 s hs G1 (Lib.hid fun W => (decide_eq_true h2 ▸ L2 W)) w
  have G2 : Hid (∀ W, (binOp .gtr 3 (.int .i64 s.kind) (.int .i64 14)).run Tryz.prog W = .ok (.bool false) W) := Lib.hid fun W => (decide_eq_false h2 ▸ L2 W)
  have hk : 1 ≤ s.kind ∧ s.kind ≤ 14 := by omega
  rw [show isKind s.kind = true by unfold isKind; rw [decide_eq_true hk.1, decide_eq_true hk.2]; rfl, Bool.true_and]
  have G3 := Lib.hid (fun W => named_any s hs hk W)
  have L4 := fun W => neqSaid hs (nmd_wf s hs hk) W
  cases e3 : decide (s = nmd s s.kind) with
  | false => rw [e3] at L4; exact rright3 s hs G1 G2 G3 (Lib.hid L4) w
  | true =>
    rw [e3] at L4
    have G4 := Lib.hid L4
    have M1 := fun W => refWithin_any s.id W
    have M2 := fun W => refWithin_any s.number W
    have M3 := fun W => refWithin_any s.index W
    have M4 := fun W => refWithin_any s.expiry W
    have M5 := fun W => refAmt_any s.amount W
    cases e4 : within s.id with
    | false => rw [e4] at M1; exact rright4 s hs G1 G2 G3 G4 (Lib.hid M1) w
    | true =>
      rw [e4] at M1
      cases e5 : within s.number with
      | false => rw [e5] at M2; exact rright5 s hs G1 G2 G3 G4 (Lib.hid M1) (Lib.hid M2) w
      | true =>
        rw [e5] at M2
        cases e6 : within s.index with
        | false => rw [e6] at M3; exact rright6 s hs G1 G2 G3 G4 (Lib.hid M1) (Lib.hid M2) (Lib.hid M3) w
        | true =>
          rw [e6] at M3
          cases e7 : within s.expiry with
          | false => rw [e7] at M4; exact rright7 s hs G1 G2 G3 G4 (Lib.hid M1) (Lib.hid M2) (Lib.hid M3) (Lib.hid M4) w
          | true =>
            rw [e7] at M4
            cases e8 : amt s.amount with
            | false => rw [e8] at M5; exact rright8 s hs G1 G2 G3 G4 (Lib.hid M1) (Lib.hid M2) (Lib.hid M3) (Lib.hid M4) (Lib.hid M5) w
            | true =>
              rw [e8] at M5
              exact rright9 s hs G1 G2 G3 G4 (Lib.hid M1) (Lib.hid M2) (Lib.hid M3) (Lib.hid M4) (Lib.hid M5) hk hm w
end Go.Proofs.YtcajhdmppfiaeaaGreat
namespace Go.Proofs.YtcajhdmppfiaeaaGreat
open Go.RowKit
section
variable {P : Program} {Q : Exit → Act → World → Prop}
structure EnvV (ops : Array Oper) (a0 : Act) (c : Nat → Value) (so : List Nat) (rs : List Value) (i : Nat) (a : Act) : Prop where
  keep : ∀ y, keepsB ops i y = true → a.eval y = a0.eval y
  val : ∀ j t, waits ops i j = true → dstOf ops j = some t → so.contains j = false → a.eval (.tmp t) = c j
  res : ∀ j t, j < so.length → waits ops i (so.getD j 0) = true → dstOf ops (so.getD j 0) = some t → a.eval (.tmp t) = rs.getD j undef
def CvStep (P : Program) (ops : Array Oper) (Q : Exit → Act → World → Prop) (a0 : Act) (c : Nat → Value) (so : List Nat) (A : List Value → World → Prop) (i : Nat) (o : Oper) : Prop :=
  match so.idxOf? i with
  | some k => (k = 0 ∨ waits ops i (so.getD (k - 1) 0) = true) ∧ ∀ a W rs, rs.length = k → EnvV ops a0 c so rs i a → A rs W → o.guard = none ∧ o.wp P a W (fun a' W' => ∃ v, a' = a.put o.dst v ∧ A (rs ++ [v]) W') Q
  | none => ∀ a W rs, EnvV ops a0 c so rs i a → A rs W → StepOk P ops Q o a W (fun v _ => v = c i)
theorem cvStep_val {ops : Array Oper} {a0 : Act} {c : Nat → Value} {so : List Nat} {A : List Value → World → Prop} {i : Nat} {o : Oper} (h : so.idxOf? i = none) (hs : ∀ a W rs, EnvV ops a0 c so rs i a → A rs W → StepOk P ops Q o a W (fun v _ => v = c i)) : CvStep P ops Q a0 c so A i o := by
  unfold CvStep
  rw [h]
  exact hs
theorem cvStep_put {ops : Array Oper} {a0 : Act} {c : Nat → Value} {so : List Nat} {A : List Value → World → Prop} {i k : Nat} {o : Oper} (h : so.idxOf? i = some k) (hw : k = 0 ∨ waits ops i (so.getD (k - 1) 0) = true) (hs : ∀ a W rs, rs.length = k → EnvV ops a0 c so rs i a → A rs W → o.guard = none ∧ o.wp P a W (fun a' W' => ∃ v, a' = a.put o.dst v ∧ A (rs ++ [v]) W') Q) : CvStep P ops Q a0 c so A i o := by
  unfold CvStep
  rw [h]
  exact ⟨hw, hs⟩
theorem take_upd {so : List Nat} {xs : Nat → Value} {i k : Nat} {v : Value} (hkl : k < so.length) (hki : so.getD k 0 = i) (hnd : so.Nodup) : (so.take (k + 1)).map (upd xs i v) = (so.take k).map xs ++ [v] := by
  rw [List.take_succ_eq_append_getElem hkl, List.map_append, List.map_cons, List.map_nil]
  have e : so[k] = i := by rw [← hki, List.getD_eq_getElem?_getD, List.getElem?_eq_getElem hkl]; rfl
  rw [e, upd_self]
  congr 1
  apply List.map_congr_left
  intro x hx
  refine upd_ne xs v (fun e2 => ?_)
  obtain ⟨j, hj, hjx⟩ := List.getElem_of_mem hx
  rw [List.getElem_take] at hjx
  have hj' : j < k ∧ j < so.length := by rw [List.length_take] at hj; omega
  have : so[j] = so[k] := by rw [hjx, e2, e]
  have := (List.getElem_inj hnd).1 this
  omega
theorem wpIn_region_cv {F : Fence} (hF : Wide F) {n : Nat} {id : Nat} {o : Oper} {os : List Oper} {a0 : Act} {w : World} (cs : List Value) (so : List Nat) (A : List Value → World → Prop) (hA : ∀ rs W W', Later W W' → A rs W → A rs W') (hA0 : A [] w)
    (hm : P.follows .mixedOrders = true) (hp : plainAll (o :: os).toArray = true) (hd : dstsB (o :: os).toArray = true) (hb : backB (o :: os).toArray = true) (ha : ancB (o :: os).toArray = true) (hin : dstIn (o :: os).toArray a0.tmps.size = true) (hg : (lastL o os).guard = none)
    (hnd : so.Nodup) (hso : (so.all fun i => decide (i < (initL o os).length)) = true)
    (step : AllFrom (CvStep P (o :: os).toArray Q a0 (fun i => cs.getD i undef) so A) 0 (initL o os))
    (fin : ∀ xs W, A (so.map xs) W → (∀ j, j < (initL o os).length → so.contains j = false → xs j = cs.getD j undef) → (∀ y, keepsB (o :: os).toArray (initL o os).length y = true → (putL (initL o os) 0 xs a0).eval y = a0.eval y) → (∀ j t, j < (initL o os).length → dstOf (o :: os).toArray j = some t → (putL (initL o os) 0 xs a0).eval (.tmp t) = xs j) →
      LastOk P (lastL o os) (putL (initL o os) 0 xs a0) W Q) : (Code.region id (o :: os).toArray true).wpIn F n P Q a0 w := by
  refine wpIn_region_lastY hF (fun f xs W => (∀ i, f i = true → so.contains i = false → xs i = cs.getD i undef) ∧ ∃ m, m ≤ so.length ∧ (∀ k, k < so.length → f (so.getD k 0) = decide (k < m)) ∧ A ((so.take m).map xs) W) ⟨fun i h => by simp at h, 0, Nat.zero_le _, fun k _ => by simp, hA _ _ _ ((Later.refl w).drew) hA0⟩ hm hp hd hb ha hin hg ?_ ?_
  · have key : ∀ (l : List Oper) (i : Nat), AllFrom (CvStep P (o :: os).toArray Q a0 (fun i => cs.getD i undef) so A) i l → AllFrom (fun i o' => ∀ a W f xs, ((∀ i, f i = true → so.contains i = false → xs i = cs.getD i undef) ∧ ∃ m, m ≤ so.length ∧ (∀ k, k < so.length → f (so.getD k 0) = decide (k < m)) ∧ A ((so.take m).map xs) W) → EnvY (o :: os).toArray a0 f i a xs →
        StepOkY P (o :: os).toArray Q o' a W (fun v W' => (∀ j, updB f i j = true → so.contains j = false → upd xs i v j = cs.getD j undef) ∧ ∃ m, m ≤ so.length ∧ (∀ k, k < so.length → updB f i (so.getD k 0) = decide (k < m)) ∧ A ((so.take m).map (upd xs i v)) W')) i l := by
      intro l
      induction l with
      | nil => intro i h; exact h
      | cons o' l ih =>
        intro i h
        obtain ⟨h1, h2⟩ := h
        refine ⟨fun a W f xs hI he => ?_, ih _ h2⟩
        obtain ⟨hc, m, hml, hfm, hAm⟩ := hI
        have henv : EnvV (o :: os).toArray a0 (fun i => cs.getD i undef) so ((so.take m).map xs) i a := ⟨he.keep, fun j t hw ht hj => (he.val j t hw ht).trans (hc j (he.done j hw) hj), fun j t hj hw ht => (he.val _ t hw ht).trans (by
          have h5 := he.done _ hw
          rw [hfm j hj] at h5
          have h6 := of_decide_eq_true h5
          rw [List.getD_eq_getElem?_getD, List.getD_eq_getElem?_getD, List.getElem?_map, List.getElem?_take_of_lt h6, List.getElem?_eq_getElem hj]
          rfl)⟩
        unfold CvStep at h1
        cases hk : so.idxOf? i with
        | some k =>
          rw [hk] at h1
          obtain ⟨hw, h3⟩ := h1
          obtain ⟨hkl, hki⟩ := idxOf_getD hk
          have e1 : ¬ k < m := by
            have := hfm k hkl
            rw [hki, he.todo] at this
            intro h
            rw [decide_eq_true h] at this
            cases this
          have e2 : k ≤ m := by
            rcases hw with h | h
            · omega
            · by_cases h0 : k = 0
              · omega
              have h4 := he.done _ h
              rw [hfm (k - 1) (by omega)] at h4
              have := of_decide_eq_true h4
              omega
          obtain rfl : k = m := by omega
          obtain ⟨hg', h4⟩ := h3 a W _ (by rw [List.length_map, List.length_take]; omega) henv hAm
          have hsc : so.contains i = true := by
            rw [List.contains_iff_mem, ← hki, List.getD_eq_getElem?_getD, List.getElem?_eq_getElem hkl]
            exact List.getElem_mem hkl
          refine stepOkY_want hg' (Oper.wp_mono (fun a' W' ⟨v, e, hv⟩ => ⟨v, e, fun j hj hjs => ?_, k + 1, hkl, fun k' hk' => ?_, by rw [take_upd hkl hki hnd]; exact hv⟩) h4)
          · have hji : j ≠ i := fun e => by rw [e, hsc] at hjs; cases hjs
            rw [upd_ne xs v hji]
            exact hc j (by simpa [updB, hji] using hj) hjs
          · by_cases e : k' = k
            · subst e
              rw [hki]
              simp [updB]
            · have hne : so.getD k' 0 ≠ i := fun e3 => e (by
                rw [← hki, List.getD_eq_getElem?_getD, List.getD_eq_getElem?_getD, List.getElem?_eq_getElem hkl, List.getElem?_eq_getElem hk'] at e3
                exact (List.getElem_inj hnd).1 e3)
              have := hfm k' hk'
              simp only [updB, if_neg hne, this]
              exact decide_eq_decide.2 (by omega)
        | none =>
          rw [hk] at h1
          have h4 := h1 a W _ henv hAm
          have hR : ∀ v W', Later W W' → v = cs.getD i undef → (∀ j, updB f i j = true → so.contains j = false → upd xs i v j = cs.getD j undef) ∧ ∃ m, m ≤ so.length ∧ (∀ k, k < so.length → updB f i (so.getD k 0) = decide (k < m)) ∧ A ((so.take m).map (upd xs i v)) W' := fun v W' hL hv => by
            refine ⟨fun j hj hjs => ?_, m, hml, fun k hkl => ?_, ?_⟩
            rotate_left 2
            · have e : (so.take m).map (upd xs i v) = (so.take m).map xs := List.map_congr_left fun x hx => upd_ne xs v (fun e2 => by
                obtain ⟨j, hj, hjx⟩ := List.getElem_of_mem hx
                rw [List.getElem_take] at hjx
                have hj' : j < so.length := by rw [List.length_take] at hj; omega
                refine idxOf_none hk j hj' ?_
                rw [List.getD_eq_getElem?_getD, List.getElem?_eq_getElem hj', ← e2, ← hjx]
                rfl)
              rw [e]
              exact hA _ _ _ hL hAm
            · by_cases e : j = i
              · subst e; rw [upd_self]; exact hv
              · rw [upd_ne xs v e]
                exact hc j (by simpa [updB, e] using hj) hjs
            · have hne := idxOf_none hk k hkl
              simp only [updB, if_neg hne]
              exact hfm k hkl
          unfold StepOk at h4
          unfold StepOkY
          split
          · rename_i hw
            rw [if_pos hw] at h4
            exact Oper.wp_mono (fun a' W' ⟨v, e, hL, hv⟩ => ⟨v, e, hR v W' hL hv⟩) h4
          · rename_i hw
            rw [if_neg hw] at h4
            exact hR _ _ (Later.refl W) h4
    exact key _ _ step
  · intro f xs W hI hall _ hk hget
    obtain ⟨hc, m, hml, hfm, hAm⟩ := hI
    have hmm : m = so.length := by
      by_cases e : m = so.length
      · exact e
      have hlt : m < so.length := by omega
      have h1 := hfm m hlt
      rw [hall] at h1
      · simp at h1
      · have := List.all_eq_true.1 hso (so.getD m 0) (by
          rw [List.getD_eq_getElem?_getD, List.getElem?_eq_getElem hlt]
          exact List.getElem_mem hlt)
        exact of_decide_eq_true this
    subst hmm
    rw [List.take_of_length_le (Nat.le_refl _)] at hAm
    exact fin xs W hAm (fun j hj hjs => hc j (hall j hj) hjs) hk hget
end
end Go.Proofs.YtcajhdmppfiaeaaGreat
namespace Go.Proofs.YtcajhdmppfiaeaaGreat
open Go.RowKit Ms
theorem refNumA_any (v : Value) (l : List UInt8) (base n : Nat) (w : World) (hown : Own 5 w base v l) (hb : base ≤ w.heap.size) (hn : n < 9223372036854775808) (hl : l.length ≤ 140737488355000) :
    Calls Tryz.prog 36 #[v, .int .i64 (n : Int)] w fun e w' => ∃ v', e = .returned v' ∧ Own 5 w' base v' (l ++ Wr.bytes n) ∧ Below base w w' := by
  have hnum := refNumber_any n w hn
  have hbl := Wr.bytes_le n
  obtain ⟨A0, n0, c0, rfl⟩ := hown.shape
  have HO := Lib.hid hown
  clear hown
  go_enter Tryz.func36, Tryz.ntmps36
  go_wp2_with (first
    | (go_at_call 92; refine hnum.mono ?_; clear hnum; rintro e w1 ⟨v1, rfl, hown1, hL1⟩; obtain ⟨A1, c1, rfl, hc1, hc2, hr1⟩ := hown1.slice)
    | (at_builtin; refine wpList_append_bytes rfl (.tmp 5) (.tmp 7) 32 rfl base 5 Tryz.underlying32 byteInfo _ l rfl (HO.out.later hL1) A1 (Wr.bytes n).length c1 (Wr.bytes n) rfl rfl hr1 (by omega) (Nat.le_trans hb hL1.size) ?_; intro v4 w4 hown4 hg4 hat4; obtain ⟨A4, n4, c4, rfl⟩ := hown4.shape)
    | fail)
  go_ret
  exact ⟨_, rfl, hown4, (hL1.below.mono hb).grown hg4 (Nat.le_trans hb hL1.size) (fun q e => ((HO.out.later hL1).at_ q e).1)⟩
theorem boxHash (h : List UInt8) (hl : h.length = 32) (w : World) : (Instr.box 24 (.agg (hC h))).run Tryz.prog w = .ok (.pointer (some ⟨w.heap.size, 0, none⟩)) (w.alloc (.cells (hC h) 24)) := run_box_row w _ _ (by rw [hC_size _ (Nat.le_of_eq hl)]; exact infoH)
theorem refHashA_any (v : Value) (l h : List UInt8) (base : Nat) (w : World) (hown : Own 5 w base v l) (hb : base ≤ w.heap.size) (hh : h.length = 32) (hl : l.length ≤ 140737488355000) :
    Calls Tryz.prog 37 #[v, .agg (hC h)] w fun e w' => ∃ v', e = .returned v' ∧ Own 5 w' base v' (l ++ h) ∧ Below base w w' := by
  have hbx := boxHash h hh w
  have k1 := Row.new w 24 (hC h)
  have hb1 := (below_new w (.cells (hC h) 24)).mono hb
  have hz1 : base ≤ (w.alloc (.cells (hC h) 24)).heap.size := Nat.le_trans hb (below_new w (.cells (hC h) 24)).size
  have hown1 := hown.alloc (.cells (hC h) 24)
  have hr1 : Rd (w.alloc (.cells (hC h) 24)) (some ⟨w.heap.size, 0, none⟩) h := rd_hash hh k1
  obtain ⟨A0, n0, c0, rfl⟩ := hown.shape
  have HO := Lib.hid hown1
  clear hown hown1
  go_enter Tryz.func37, Tryz.ntmps37
  go_upto_region 1 with fail
  obtain ⟨g, hg⟩ : ∃ q, q = w.heap.size := ⟨_, rfl⟩
  rw [← hg] at hr1 k1 ⊢
  clear hbx hg
  generalize w.alloc (.cells (hC h) 24) = w1 at *
  go_wp2_with (first
    | (guard_target =~ wpList _ _ _ (_ :: _) _ _; refine wpList_slice0 rfl 24 (.tmp 3) rfl (.pointer (some ⟨g, 0, none⟩)) rfl (sliceHash w1) ?_)
    | (at_builtin; refine wpList_append_bytes rfl (.tmp 5) (.tmp 6) 32 rfl base 5 Tryz.underlying32 byteInfo _ l rfl HO.out (some ⟨g, 0, none⟩) 32 32 h rfl hh hr1 (by omega) hz1 ?_; intro v4 w4 hown4 hg4 hat4; obtain ⟨A4, n4, c4, rfl⟩ := hown4.shape)
    | fail)
  go_ret
  exact ⟨_, rfl, hown4, hb1.grown hg4 hz1 (fun q e => (HO.out.at_ q e).1)⟩
end Go.Proofs.YtcajhdmppfiaeaaGreat
namespace Go.Proofs.YtcajhdmppfiaeaaGreat
open Go.RowKit Ms
theorem getD_last {rs : List Value} {k : Nat} (h : rs.length = k + 1) (v0 : Value) : rs.getD k undef = rs.getLastD v0 := by
  rw [List.getLastD_eq_getLast?, List.getLast?_eq_getElem?, h, List.getD_eq_getElem?_getD, Nat.add_sub_cancel, List.getElem?_eq_getElem (by omega)]
  rfl
structure BA (w : World) (g : Nat) (s : Said) (v0 : Value) (d : Nat) (rs : List Value) (W : World) : Prop where
  low : Below (g + 1) w W
  src : Row W g 29 (saidC s)
  own : Own 5 W (g + 1) (rs.getLastD v0) (Wr.bytes s.kind.toNat ++ Ms.laid ((flds s.kind).take (d + rs.length)) s)
  sz : g + 1 ≤ W.heap.size
section
variable {w W W' : World} {g d : Nat} {s : Said} {v0 : Value} {rs : List Value}
theorem BA.later (h : BA w g s v0 d rs W) (hL : Later W W') : BA w g s v0 d rs W' := ⟨h.low.trans (hL.below.mono h.sz), h.src.later hL, h.own.later hL, Nat.le_trans h.sz hL.size⟩
theorem BA.step (h : BA w g s v0 d rs W) {f : Fld} (hf : (flds s.kind)[d + rs.length]? = some f) {v : Value} (hown : Own 5 W' (g + 1) v ((Wr.bytes s.kind.toNat ++ Ms.laid ((flds s.kind).take (d + rs.length)) s) ++ lay s f)) (hb : Below (g + 1) W W') : BA w g s v0 d (rs ++ [v]) W' := by
  refine ⟨h.low.trans hb, h.src.below (hb.mono (Nat.le_refl _)) (Nat.lt_succ_self g), ?_, Nat.le_trans h.sz hb.size⟩
  obtain ⟨hlt, he⟩ := List.getElem?_eq_some_iff.1 hf
  rw [List.getLastD_concat, List.length_append, List.length_singleton, ← Nat.add_assoc, List.take_succ_eq_append_getElem hlt, he, laid_snoc, ← List.append_assoc]
  exact hown
theorem BA.len (h : BA w g s v0 d rs W) (hs : s.wf) (hr : s.route.length ≤ 512) : (Wr.bytes s.kind.toNat ++ Ms.laid ((flds s.kind).take (d + rs.length)) s).length ≤ 10000 := by
  have h1 := Wr.bytes_le s.kind.toNat
  have h2 := laid_le hs hr ((flds s.kind).take (d + rs.length)) (fun f hf => flds_hash s.kind f (List.mem_of_mem_take hf))
  have h3 := flds_len s.kind
  rw [List.length_take] at h2
  rw [List.length_append]
  omega
theorem ba_num (hs : s.wf) (hr : s.route.length ≤ 512) (hok : ∀ f ∈ flds s.kind, layOk s f) (h : BA w g s v0 d rs W) (j : Nat) (m : Int) (hf : (flds s.kind)[d + rs.length]? = some (.num j m)) :
    Calls Tryz.prog 36 #[rs.getLastD v0, .int .i64 (s.n j)] W fun e W' => ∃ v, e = .returned v ∧ BA w g s v0 d (rs ++ [v]) W' := by
  obtain ⟨h0, h1⟩ : 0 ≤ s.n j ∧ s.n j ≤ 4611686018427387904 := hok _ (List.mem_of_getElem? hf)
  have hl := h.len hs hr
  have hc := refNumA_any _ _ (g + 1) (s.n j).toNat W h.own h.sz (by omega) (by omega)
  rw [Int.toNat_of_nonneg h0] at hc
  exact hc.mono fun e W' ⟨v, he, ho, hb⟩ => ⟨v, he, h.step hf ho hb⟩
theorem ba_hash (hs : s.wf) (hr : s.route.length ≤ 512) (h : BA w g s v0 d rs W) (j : Nat) (hj : j < 9) (hf : (flds s.kind)[d + rs.length]? = some (.hash j)) :
    Calls Tryz.prog 37 #[rs.getLastD v0, .agg (hC (s.h j))] W fun e W' => ∃ v, e = .returned v ∧ BA w g s v0 d (rs ++ [v]) W' := by
  have hl := h.len hs hr
  exact (refHashA_any _ _ (s.h j) (g + 1) W h.own h.sz (hs j hj) (by omega)).mono fun e W' ⟨v, he, ho, hb⟩ => ⟨v, he, h.step hf ho hb⟩
def BR (w : World) (g : Nat) (s : Said) (v0 : Value) (n : Nat) (rs : List Value) (W : World) : Prop :=
  (rs.length ≤ n → BA w g s v0 0 rs W) ∧ (rs.length = n + 1 → ∃ r0 A c, rs = r0 ++ [.slice A (lay s .route).length c] ∧ BA w g s v0 0 r0 W ∧ Rd W A (lay s .route)) ∧ (rs.length = n + 2 → ∃ r0 x v, rs = r0 ++ [x] ++ [v] ∧ BA w g s v0 0 (r0 ++ [v]) W) ∧ Row W g 29 (saidC s)
theorem BR.later {n : Nat} (h : BR w g s v0 n rs W) (hL : Later W W') : BR w g s v0 n rs W' :=
  ⟨fun e => (h.1 e).later hL, fun e => by obtain ⟨r0, A, c, e1, h1, h2⟩ := h.2.1 e; exact ⟨r0, A, c, e1, h1.later hL, h2.later hL⟩, fun e => by obtain ⟨r0, x, v, e1, h1⟩ := h.2.2.1 e; exact ⟨r0, x, v, e1, h1.later hL⟩, h.2.2.2.later hL⟩
theorem BR.of {n : Nat} (h : BA w g s v0 0 rs W) (hn : rs.length ≤ n) : BR w g s v0 n rs W := ⟨fun _ => h, fun e => by omega, fun e => by omega, h.src⟩
theorem br_text (hr : s.route.length ≤ 512) {n : Nat} (h : BR w g s v0 n rs W) (hn : rs.length = n) :
    Calls Tryz.prog 38 #[.string ⟨s.route.toArray⟩] W fun e W' => ∃ v, e = .returned v ∧ BR w g s v0 n (rs ++ [v]) W' :=
  (refText_any s.route W (by omega)).mono fun e W' ⟨v, he, ho, hL⟩ => by
    obtain ⟨A, c, rfl, _, _, hrd⟩ := ho.slice
    exact ⟨_, he, fun e2 => by simp at e2; omega, fun _ => ⟨rs, A, c, rfl, (h.1 (by omega)).later hL, hrd⟩, fun e2 => by simp at e2; omega, h.2.2.2.later hL⟩
theorem BR.done {n : Nat} (h : BR w g s v0 n rs W) (hn : rs.length = n + 2) : ∃ r0 x v, rs = r0 ++ [x] ++ [v] ∧ BA w g s v0 0 (r0 ++ [v]) W := h.2.2.1 hn
end
end Go.Proofs.YtcajhdmppfiaeaaGreat
namespace Go.Proofs.YtcajhdmppfiaeaaGreat
open Go.RowKit Ms
theorem fieldTd {g : Nat} {W : World} : (∀ i o, (i, o) ∈ [(2, 34), (3, 35), (4, 36), (5, 37), (6, 38)] → (Instr.fieldAt 27 (.pointer (some ⟨g, 1, none⟩)) i).run Tryz.prog W = .ok (.pointer (some ⟨g, o, none⟩)) W) := by
  intro i o h
  simp only [List.mem_cons, Prod.mk.injEq, List.not_mem_nil, or_false] at h
  rcases h with ⟨rfl, rfl⟩ | ⟨rfl, rfl⟩ | ⟨rfl, rfl⟩ | ⟨rfl, rfl⟩ | ⟨rfl, rfl⟩
  all_goals go_simp
theorem idxK38 {g : Nat} {W : World} : (Instr.indexAt 25 (.pointer (some ⟨g, 38, none⟩)) (.int .i64 0)).run Tryz.prog W = .ok (.pointer (some ⟨g, 38, none⟩)) W := by
  go_simp
set_option maxRecDepth 100000 in
set_option maxHeartbeats 4000000 in
theorem rbody1 (s : Said) (hs : s.wf) (hk : s.kind = 1) (h512 : s.route.length ≤ 512) (hok : ∀ f ∈ flds s.kind, layOk s f) (w : World) : Calls Tryz.prog 14 #[.agg (saidC s)] w fun e w' => ∃ v, e = .returned v ∧ Own 5 w' w.heap.size v (body s) ∧ Below w.heap.size w w' := by
  have k1 := Row.new w 29 (saidC s)
  have hb := below_new w (.cells (saidC s) 29)
  have hbx := boxSaid hs w
  have hz : w.heap.size + 1 ≤ (w.alloc (.cells (saidC s) 29)).heap.size := k1.lt
  go_enter Tryz.func14, Tryz.ntmps14
  go_upto_region 1 with fail
  obtain ⟨g, hg⟩ : ∃ q, q = w.heap.size := ⟨_, rfl⟩
  rw [← hg] at k1 hz ⊢
  have HG := Lib.hid hg
  clear hbx hg
  generalize w.alloc (.cells (saidC s) 29) = w1 at *
  have c0 : w1.cell? ⟨g, 0, none⟩ = some (.int .i64 (1)) := (k1.cell 0).trans ((saidC_kind hs).trans (by rw [hk]))
  have hnum := refNumA_any (.slice none 0 0) [] (g + 1) (((1) : Int).toNat) w1 (Own.nil _ _ _) hz (by decide) (by decide)
  go_upto_region 2 with (first
    | (go_at_call 36; refine hnum.mono ?_; clear hnum; rintro e w2 ⟨v0, rfl, hown0, hb2⟩)
    | fail)
  clear c0
  have k2 := k1.below (hb2.mono (Nat.le_refl _)) (Nat.lt_succ_self g)
  have hA0 : BA w1 g s v0 0 [] w2 := ⟨hb2, k2, by rw [hk]; exact hown0, Nat.le_trans hz hb2.size⟩
  have c0 : w2.cell? ⟨g, 0, none⟩ = some (.int .i64 (1)) := (k2.cell 0).trans ((saidC_kind hs).trans (by rw [hk]))
  clear k1 k2 hown0 hb2
  go_upto_region 4 with fail
  refine (wpIn_wide (n := 0)).1 ?_
  refine wpIn_region_cv wide_wide [v0, .pointer (some ⟨g, 1, none⟩), .pointer (some ⟨g, offN 1, none⟩), .int .i64 (s.n 1), undef, .pointer (some ⟨g, 1, none⟩), .pointer (some ⟨g, offN 2, none⟩), .int .i64 (s.n 2), undef, .pointer (some ⟨g, 1, none⟩), .pointer (some ⟨g, offN 3, none⟩), .int .i64 (s.n 3), undef, .pointer (some ⟨g, 1, none⟩), .pointer (some ⟨g, offN 4, none⟩), .int .i64 (s.n 4), undef, .pointer (some ⟨g, 1, none⟩), .pointer (some ⟨g, offH 1, none⟩), .pointer (some ⟨g, offH 1, none⟩), .agg (hC (s.h 1)), undef] [4, 8, 12, 16, 21] (BA w1 g s v0 0) (fun rs W W' hL h => h.later hL) hA0 (by kernel_rfl) (by kernel_rfl) (by kernel_rfl) (by kernel_rfl) (by kernel_rfl) (by kernel_rfl) rfl (by decide) rfl ⟨?_, ?_, ?_, ?_, ?_, ?_, ?_, ?_, ?_, ?_, ?_, ?_, ?_, ?_, ?_, ?_, ?_, ?_, ?_, ?_, ?_, ?_, trivial⟩ ?_
  · exact cvStep_val rfl (fun ac W rs he hA => stepOk_want rfl (op_move rfl (he.keep (.tmp 3) (by kernel_rfl))))
  · exact cvStep_val rfl (fun ac W rs he hA => stepOk_want rfl (op_fieldAddr rfl (he.keep (.tmp 1) (by kernel_rfl)) (fieldSd 1 1 (by decide)) rfl))
  · exact cvStep_val rfl (fun ac W rs he hA => stepOk_want rfl (op_fieldAddr rfl (show ac.eval (.tmp 12) = .pointer (some ⟨g, 1, none⟩) from he.val 1 12 (by kernel_rfl) rfl rfl) (fieldTd 2 34 (by decide)) rfl))
  · exact cvStep_val rfl (fun ac W rs he hA => stepOk_want rfl (op_load rfl (show ac.eval (.tmp 13) = .pointer (some ⟨g, offN 1, none⟩) from he.val 2 13 (by kernel_rfl) rfl rfl) (loadSaidN hs (hA.src) 1 (by decide)) rfl))
  · refine cvStep_put (k := 0) rfl (.inl rfl) (fun ac W rs hlen he hA => ⟨rfl, ?_⟩)
    obtain rfl := List.eq_nil_of_length_eq_zero hlen
    have e0 : ac.eval (.tmp 11) = ([] : List Value).getLastD v0 := he.val 0 11 (by kernel_rfl) rfl rfl
    have e1 : ac.eval (.tmp 14) = .int .i64 (s.n 1) := he.val 3 14 (by kernel_rfl) rfl rfl
    exact op_callFK (vs := #[([] : List Value).getLastD v0, .int .i64 (s.n 1)]) rfl (by simp only [List.map_toArray, List.map_cons, List.map_nil, e0, e1]) (enters_of Tryz.func36 (by kernel_rfl) rfl) ((ba_num hs h512 hok hA 1 1125899906842624 (by rw [hk]; rfl)).mono fun e W' ⟨v, he', hb⟩ => ⟨v, he', v, rfl, hb⟩)
  · exact cvStep_val rfl (fun ac W rs he hA => stepOk_want rfl (op_fieldAddr rfl (he.keep (.tmp 1) (by kernel_rfl)) (fieldSd 1 1 (by decide)) rfl))
  · exact cvStep_val rfl (fun ac W rs he hA => stepOk_want rfl (op_fieldAddr rfl (show ac.eval (.tmp 16) = .pointer (some ⟨g, 1, none⟩) from he.val 5 16 (by kernel_rfl) rfl rfl) (fieldTd 3 35 (by decide)) rfl))
  · exact cvStep_val rfl (fun ac W rs he hA => stepOk_want rfl (op_load rfl (show ac.eval (.tmp 17) = .pointer (some ⟨g, offN 2, none⟩) from he.val 6 17 (by kernel_rfl) rfl rfl) (loadSaidN hs (hA.src) 2 (by decide)) rfl))
  · refine cvStep_put (k := 1) rfl (.inr (by kernel_rfl)) (fun ac W rs hlen he hA => ⟨rfl, ?_⟩)
    have e0 : ac.eval (.tmp 15) = rs.getLastD v0 := (he.res 0 15 (by decide) (by kernel_rfl) rfl).trans (getD_last hlen v0)
    have e1 : ac.eval (.tmp 18) = .int .i64 (s.n 2) := he.val 7 18 (by kernel_rfl) rfl rfl
    exact op_callFK (vs := #[rs.getLastD v0, .int .i64 (s.n 2)]) rfl (by simp only [List.map_toArray, List.map_cons, List.map_nil, e0, e1]) (enters_of Tryz.func36 (by kernel_rfl) rfl) ((ba_num hs h512 hok hA 2 2147483647 (by rw [hlen, hk]; rfl)).mono fun e W' ⟨v, he', hb⟩ => ⟨v, he', v, rfl, hb⟩)
  · exact cvStep_val rfl (fun ac W rs he hA => stepOk_want rfl (op_fieldAddr rfl (he.keep (.tmp 1) (by kernel_rfl)) (fieldSd 1 1 (by decide)) rfl))
  · exact cvStep_val rfl (fun ac W rs he hA => stepOk_want rfl (op_fieldAddr rfl (show ac.eval (.tmp 20) = .pointer (some ⟨g, 1, none⟩) from he.val 9 20 (by kernel_rfl) rfl rfl) (fieldTd 4 36 (by decide)) rfl))
  · exact cvStep_val rfl (fun ac W rs he hA => stepOk_want rfl (op_load rfl (show ac.eval (.tmp 21) = .pointer (some ⟨g, offN 3, none⟩) from he.val 10 21 (by kernel_rfl) rfl rfl) (loadSaidN hs (hA.src) 3 (by decide)) rfl))
  · refine cvStep_put (k := 2) rfl (.inr (by kernel_rfl)) (fun ac W rs hlen he hA => ⟨rfl, ?_⟩)
    have e0 : ac.eval (.tmp 19) = rs.getLastD v0 := (he.res 1 19 (by decide) (by kernel_rfl) rfl).trans (getD_last hlen v0)
    have e1 : ac.eval (.tmp 22) = .int .i64 (s.n 3) := he.val 11 22 (by kernel_rfl) rfl rfl
    exact op_callFK (vs := #[rs.getLastD v0, .int .i64 (s.n 3)]) rfl (by simp only [List.map_toArray, List.map_cons, List.map_nil, e0, e1]) (enters_of Tryz.func36 (by kernel_rfl) rfl) ((ba_num hs h512 hok hA 3 2147483647 (by rw [hlen, hk]; rfl)).mono fun e W' ⟨v, he', hb⟩ => ⟨v, he', v, rfl, hb⟩)
  · exact cvStep_val rfl (fun ac W rs he hA => stepOk_want rfl (op_fieldAddr rfl (he.keep (.tmp 1) (by kernel_rfl)) (fieldSd 1 1 (by decide)) rfl))
  · exact cvStep_val rfl (fun ac W rs he hA => stepOk_want rfl (op_fieldAddr rfl (show ac.eval (.tmp 24) = .pointer (some ⟨g, 1, none⟩) from he.val 13 24 (by kernel_rfl) rfl rfl) (fieldTd 5 37 (by decide)) rfl))
  · exact cvStep_val rfl (fun ac W rs he hA => stepOk_want rfl (op_load rfl (show ac.eval (.tmp 25) = .pointer (some ⟨g, offN 4, none⟩) from he.val 14 25 (by kernel_rfl) rfl rfl) (loadSaidN hs (hA.src) 4 (by decide)) rfl))
  · refine cvStep_put (k := 3) rfl (.inr (by kernel_rfl)) (fun ac W rs hlen he hA => ⟨rfl, ?_⟩)
    have e0 : ac.eval (.tmp 23) = rs.getLastD v0 := (he.res 2 23 (by decide) (by kernel_rfl) rfl).trans (getD_last hlen v0)
    have e1 : ac.eval (.tmp 26) = .int .i64 (s.n 4) := he.val 15 26 (by kernel_rfl) rfl rfl
    exact op_callFK (vs := #[rs.getLastD v0, .int .i64 (s.n 4)]) rfl (by simp only [List.map_toArray, List.map_cons, List.map_nil, e0, e1]) (enters_of Tryz.func36 (by kernel_rfl) rfl) ((ba_num hs h512 hok hA 4 2147483647 (by rw [hlen, hk]; rfl)).mono fun e W' ⟨v, he', hb⟩ => ⟨v, he', v, rfl, hb⟩)
  · exact cvStep_val rfl (fun ac W rs he hA => stepOk_want rfl (op_fieldAddr rfl (he.keep (.tmp 1) (by kernel_rfl)) (fieldSd 1 1 (by decide)) rfl))
  · exact cvStep_val rfl (fun ac W rs he hA => stepOk_want rfl (op_fieldAddr rfl (show ac.eval (.tmp 28) = .pointer (some ⟨g, 1, none⟩) from he.val 17 28 (by kernel_rfl) rfl rfl) (fieldTd 6 38 (by decide)) rfl))
  · exact cvStep_val rfl (fun ac W rs he hA => stepOk_want rfl (op_idx rfl (show ac.eval (.tmp 29) = .pointer (some ⟨g, 38, none⟩) from he.val 18 29 (by kernel_rfl) rfl rfl) rfl idxK38 rfl))
  · exact cvStep_val rfl (fun ac W rs he hA => stepOk_want rfl (op_load rfl (show ac.eval (.tmp 30) = .pointer (some ⟨g, offH 1, none⟩) from he.val 19 30 (by kernel_rfl) rfl rfl) (loadSaidH hs (hA.src) 1 (by decide)) rfl))
  · refine cvStep_put (k := 4) rfl (.inr (by kernel_rfl)) (fun ac W rs hlen he hA => ⟨rfl, ?_⟩)
    have e0 : ac.eval (.tmp 27) = rs.getLastD v0 := (he.res 3 27 (by decide) (by kernel_rfl) rfl).trans (getD_last hlen v0)
    have e1 : ac.eval (.tmp 31) = .agg (hC (s.h 1)) := he.val 20 31 (by kernel_rfl) rfl rfl
    exact op_callFK (vs := #[rs.getLastD v0, .agg (hC (s.h 1))]) rfl (by simp only [List.map_toArray, List.map_cons, List.map_nil, e0, e1]) (enters_of Tryz.func37 (by kernel_rfl) rfl) ((ba_hash hs h512 hA 1 (by decide) (by rw [hlen, hk]; rfl)).mono fun e W' ⟨v, he', hb⟩ => ⟨v, he', v, rfl, hb⟩)
  intro xs W hA hx hk2 hgt
  have hA : BA w1 g s v0 0 [xs 4, xs 8, xs 12, xs 16, xs 21] W := hA
  refine last_assign rfl (hgt 21 32 (by decide) (by kernel_rfl)) ?_
  clear hx hk2 hgt hA0
  simp only [initL, lastL, putL, Nat.reduceAdd, Act.put, List.setIfInBounds_toArray, List.set_cons_succ, List.set_cons_zero]
  have hA0 : BA w1 g s (xs 21) 5 [] W := ⟨hA.low, hA.src, hA.own, hA.sz⟩
  clear hA
  generalize xs 21 = v0 at *
  go_upto_region 5 with fail
  refine (wpIn_wide (n := 0)).1 ?_
  refine wpIn_region_cv wide_wide [v0, .pointer (some ⟨g, offN 5, none⟩), .int .i64 (s.n 5), undef, .pointer (some ⟨g, offN 6, none⟩), .int .i64 (s.n 6), undef, .pointer (some ⟨g, offH 3, none⟩), .agg (hC (s.h 3)), undef, .pointer (some ⟨g, offH 4, none⟩), .agg (hC (s.h 4)), undef] [3, 6, 9, 12] (BA w1 g s v0 5) (fun rs W W' hL h => h.later hL) hA0 (by kernel_rfl) (by kernel_rfl) (by kernel_rfl) (by kernel_rfl) (by kernel_rfl) (by kernel_rfl) rfl (by decide) rfl ⟨?_, ?_, ?_, ?_, ?_, ?_, ?_, ?_, ?_, ?_, ?_, ?_, ?_, trivial⟩ ?_
  · exact cvStep_val rfl (fun ac W rs he hA => stepOk_want rfl (op_move rfl (he.keep (.tmp 3) (by kernel_rfl))))
  · exact cvStep_val rfl (fun ac W rs he hA => stepOk_want rfl (op_fieldAddr rfl (he.keep (.tmp 1) (by kernel_rfl)) (fieldSd 2 102 (by decide)) rfl))
  · exact cvStep_val rfl (fun ac W rs he hA => stepOk_want rfl (op_load rfl (show ac.eval (.tmp 34) = .pointer (some ⟨g, offN 5, none⟩) from he.val 1 34 (by kernel_rfl) rfl rfl) (loadSaidN hs (hA.src) 5 (by decide)) rfl))
  · refine cvStep_put (k := 0) rfl (.inl rfl) (fun ac W rs hlen he hA => ⟨rfl, ?_⟩)
    obtain rfl := List.eq_nil_of_length_eq_zero hlen
    have e0 : ac.eval (.tmp 33) = ([] : List Value).getLastD v0 := he.val 0 33 (by kernel_rfl) rfl rfl
    have e1 : ac.eval (.tmp 35) = .int .i64 (s.n 5) := he.val 2 35 (by kernel_rfl) rfl rfl
    exact op_callFK (vs := #[([] : List Value).getLastD v0, .int .i64 (s.n 5)]) rfl (by simp only [List.map_toArray, List.map_cons, List.map_nil, e0, e1]) (enters_of Tryz.func36 (by kernel_rfl) rfl) ((ba_num hs h512 hok hA 5 1125899906842624 (by rw [hk]; rfl)).mono fun e W' ⟨v, he', hb⟩ => ⟨v, he', v, rfl, hb⟩)
  · exact cvStep_val rfl (fun ac W rs he hA => stepOk_want rfl (op_fieldAddr rfl (he.keep (.tmp 1) (by kernel_rfl)) (fieldSd 3 103 (by decide)) rfl))
  · exact cvStep_val rfl (fun ac W rs he hA => stepOk_want rfl (op_load rfl (show ac.eval (.tmp 37) = .pointer (some ⟨g, offN 6, none⟩) from he.val 4 37 (by kernel_rfl) rfl rfl) (loadSaidN hs (hA.src) 6 (by decide)) rfl))
  · refine cvStep_put (k := 1) rfl (.inr (by kernel_rfl)) (fun ac W rs hlen he hA => ⟨rfl, ?_⟩)
    have e0 : ac.eval (.tmp 36) = rs.getLastD v0 := (he.res 0 36 (by decide) (by kernel_rfl) rfl).trans (getD_last hlen v0)
    have e1 : ac.eval (.tmp 38) = .int .i64 (s.n 6) := he.val 5 38 (by kernel_rfl) rfl rfl
    exact op_callFK (vs := #[rs.getLastD v0, .int .i64 (s.n 6)]) rfl (by simp only [List.map_toArray, List.map_cons, List.map_nil, e0, e1]) (enters_of Tryz.func36 (by kernel_rfl) rfl) ((ba_num hs h512 hok hA 6 1125899906842624 (by rw [hlen, hk]; rfl)).mono fun e W' ⟨v, he', hb⟩ => ⟨v, he', v, rfl, hb⟩)
  · exact cvStep_val rfl (fun ac W rs he hA => stepOk_want rfl (op_fieldAddr rfl (he.keep (.tmp 1) (by kernel_rfl)) (fieldSd 4 104 (by decide)) rfl))
  · exact cvStep_val rfl (fun ac W rs he hA => stepOk_want rfl (op_load rfl (show ac.eval (.tmp 40) = .pointer (some ⟨g, offH 3, none⟩) from he.val 7 40 (by kernel_rfl) rfl rfl) (loadSaidH hs (hA.src) 3 (by decide)) rfl))
  · refine cvStep_put (k := 2) rfl (.inr (by kernel_rfl)) (fun ac W rs hlen he hA => ⟨rfl, ?_⟩)
    have e0 : ac.eval (.tmp 39) = rs.getLastD v0 := (he.res 1 39 (by decide) (by kernel_rfl) rfl).trans (getD_last hlen v0)
    have e1 : ac.eval (.tmp 41) = .agg (hC (s.h 3)) := he.val 8 41 (by kernel_rfl) rfl rfl
    exact op_callFK (vs := #[rs.getLastD v0, .agg (hC (s.h 3))]) rfl (by simp only [List.map_toArray, List.map_cons, List.map_nil, e0, e1]) (enters_of Tryz.func37 (by kernel_rfl) rfl) ((ba_hash hs h512 hA 3 (by decide) (by rw [hlen, hk]; rfl)).mono fun e W' ⟨v, he', hb⟩ => ⟨v, he', v, rfl, hb⟩)
  · exact cvStep_val rfl (fun ac W rs he hA => stepOk_want rfl (op_fieldAddr rfl (he.keep (.tmp 1) (by kernel_rfl)) (fieldSd 5 136 (by decide)) rfl))
  · exact cvStep_val rfl (fun ac W rs he hA => stepOk_want rfl (op_load rfl (show ac.eval (.tmp 43) = .pointer (some ⟨g, offH 4, none⟩) from he.val 10 43 (by kernel_rfl) rfl rfl) (loadSaidH hs (hA.src) 4 (by decide)) rfl))
  · refine cvStep_put (k := 3) rfl (.inr (by kernel_rfl)) (fun ac W rs hlen he hA => ⟨rfl, ?_⟩)
    have e0 : ac.eval (.tmp 42) = rs.getLastD v0 := (he.res 2 42 (by decide) (by kernel_rfl) rfl).trans (getD_last hlen v0)
    have e1 : ac.eval (.tmp 44) = .agg (hC (s.h 4)) := he.val 11 44 (by kernel_rfl) rfl rfl
    exact op_callFK (vs := #[rs.getLastD v0, .agg (hC (s.h 4))]) rfl (by simp only [List.map_toArray, List.map_cons, List.map_nil, e0, e1]) (enters_of Tryz.func37 (by kernel_rfl) rfl) ((ba_hash hs h512 hA 4 (by decide) (by rw [hlen, hk]; rfl)).mono fun e W' ⟨v, he', hb⟩ => ⟨v, he', v, rfl, hb⟩)
  intro ys W hA hx hk2 hgt
  have hA : BA w1 g s v0 5 [ys 3, ys 6, ys 9, ys 12] W := hA
  refine last_assign rfl (hgt 12 45 (by decide) (by kernel_rfl)) ?_
  clear hx hk2 hgt hA0
  simp only [initL, lastL, putL, Nat.reduceAdd, Act.put, List.setIfInBounds_toArray, List.set_cons_succ, List.set_cons_zero]
  go_wp2_with fail
  go_ret
  refine ⟨_, rfl, ?_, ?_⟩
  · have h1 := hA.own.mono (Nat.le_succ g)
    have h2 := HG.out
    subst h2
    unfold body
    rw [show ∀ n, n = (flds s.kind).length → (flds s.kind).take n = flds s.kind from fun n e => by rw [e, List.take_length]] at h1
    · exact h1
    · rw [hk]; rfl
  · have h2 := HG.out
    subst h2
    exact hb.trans (hA.low.mono (Nat.le_succ _))
set_option maxRecDepth 100000 in
set_option maxHeartbeats 4000000 in
theorem rbody2 (s : Said) (hs : s.wf) (hk : s.kind = 2) (h512 : s.route.length ≤ 512) (hok : ∀ f ∈ flds s.kind, layOk s f) (w : World) : Calls Tryz.prog 14 #[.agg (saidC s)] w fun e w' => ∃ v, e = .returned v ∧ Own 5 w' w.heap.size v (body s) ∧ Below w.heap.size w w' := by
  have k1 := Row.new w 29 (saidC s)
  have hb := below_new w (.cells (saidC s) 29)
  have hbx := boxSaid hs w
  have hz : w.heap.size + 1 ≤ (w.alloc (.cells (saidC s) 29)).heap.size := k1.lt
  go_enter Tryz.func14, Tryz.ntmps14
  go_upto_region 1 with fail
  obtain ⟨g, hg⟩ : ∃ q, q = w.heap.size := ⟨_, rfl⟩
  rw [← hg] at k1 hz ⊢
  have HG := Lib.hid hg
  clear hbx hg
  generalize w.alloc (.cells (saidC s) 29) = w1 at *
  have c0 : w1.cell? ⟨g, 0, none⟩ = some (.int .i64 (2)) := (k1.cell 0).trans ((saidC_kind hs).trans (by rw [hk]))
  have hnum := refNumA_any (.slice none 0 0) [] (g + 1) (((2) : Int).toNat) w1 (Own.nil _ _ _) hz (by decide) (by decide)
  go_upto_region 2 with (first
    | (go_at_call 36; refine hnum.mono ?_; clear hnum; rintro e w2 ⟨v0, rfl, hown0, hb2⟩)
    | fail)
  clear c0
  have k2 := k1.below (hb2.mono (Nat.le_refl _)) (Nat.lt_succ_self g)
  have hA0 : BA w1 g s v0 0 [] w2 := ⟨hb2, k2, by rw [hk]; exact hown0, Nat.le_trans hz hb2.size⟩
  have c0 : w2.cell? ⟨g, 0, none⟩ = some (.int .i64 (2)) := (k2.cell 0).trans ((saidC_kind hs).trans (by rw [hk]))
  clear k1 k2 hown0 hb2
  go_upto_region 7 with fail
  refine (wpIn_wide (n := 0)).1 ?_
  refine wpIn_region_cv wide_wide [v0, .pointer (some ⟨g, offH 5, none⟩), .agg (hC (s.h 5)), undef, .pointer (some ⟨g, offH 3, none⟩), .agg (hC (s.h 3)), undef, .pointer (some ⟨g, offH 4, none⟩), .agg (hC (s.h 4)), undef] [3, 6, 9] (BA w1 g s v0 0) (fun rs W W' hL h => h.later hL) hA0 (by kernel_rfl) (by kernel_rfl) (by kernel_rfl) (by kernel_rfl) (by kernel_rfl) (by kernel_rfl) rfl (by decide) rfl ⟨?_, ?_, ?_, ?_, ?_, ?_, ?_, ?_, ?_, ?_, trivial⟩ ?_
  · exact cvStep_val rfl (fun ac W rs he hA => stepOk_want rfl (op_move rfl (he.keep (.tmp 3) (by kernel_rfl))))
  · exact cvStep_val rfl (fun ac W rs he hA => stepOk_want rfl (op_fieldAddr rfl (he.keep (.tmp 1) (by kernel_rfl)) (fieldSd 6 168 (by decide)) rfl))
  · exact cvStep_val rfl (fun ac W rs he hA => stepOk_want rfl (op_load rfl (show ac.eval (.tmp 49) = .pointer (some ⟨g, offH 5, none⟩) from he.val 1 49 (by kernel_rfl) rfl rfl) (loadSaidH hs (hA.src) 5 (by decide)) rfl))
  · refine cvStep_put (k := 0) rfl (.inl rfl) (fun ac W rs hlen he hA => ⟨rfl, ?_⟩)
    obtain rfl := List.eq_nil_of_length_eq_zero hlen
    have e0 : ac.eval (.tmp 48) = ([] : List Value).getLastD v0 := he.val 0 48 (by kernel_rfl) rfl rfl
    have e1 : ac.eval (.tmp 50) = .agg (hC (s.h 5)) := he.val 2 50 (by kernel_rfl) rfl rfl
    exact op_callFK (vs := #[([] : List Value).getLastD v0, .agg (hC (s.h 5))]) rfl (by simp only [List.map_toArray, List.map_cons, List.map_nil, e0, e1]) (enters_of Tryz.func37 (by kernel_rfl) rfl) ((ba_hash hs h512 hA 5 (by decide) (by rw [hk]; rfl)).mono fun e W' ⟨v, he', hb⟩ => ⟨v, he', v, rfl, hb⟩)
  · exact cvStep_val rfl (fun ac W rs he hA => stepOk_want rfl (op_fieldAddr rfl (he.keep (.tmp 1) (by kernel_rfl)) (fieldSd 4 104 (by decide)) rfl))
  · exact cvStep_val rfl (fun ac W rs he hA => stepOk_want rfl (op_load rfl (show ac.eval (.tmp 52) = .pointer (some ⟨g, offH 3, none⟩) from he.val 4 52 (by kernel_rfl) rfl rfl) (loadSaidH hs (hA.src) 3 (by decide)) rfl))
  · refine cvStep_put (k := 1) rfl (.inr (by kernel_rfl)) (fun ac W rs hlen he hA => ⟨rfl, ?_⟩)
    have e0 : ac.eval (.tmp 51) = rs.getLastD v0 := (he.res 0 51 (by decide) (by kernel_rfl) rfl).trans (getD_last hlen v0)
    have e1 : ac.eval (.tmp 53) = .agg (hC (s.h 3)) := he.val 5 53 (by kernel_rfl) rfl rfl
    exact op_callFK (vs := #[rs.getLastD v0, .agg (hC (s.h 3))]) rfl (by simp only [List.map_toArray, List.map_cons, List.map_nil, e0, e1]) (enters_of Tryz.func37 (by kernel_rfl) rfl) ((ba_hash hs h512 hA 3 (by decide) (by rw [hlen, hk]; rfl)).mono fun e W' ⟨v, he', hb⟩ => ⟨v, he', v, rfl, hb⟩)
  · exact cvStep_val rfl (fun ac W rs he hA => stepOk_want rfl (op_fieldAddr rfl (he.keep (.tmp 1) (by kernel_rfl)) (fieldSd 5 136 (by decide)) rfl))
  · exact cvStep_val rfl (fun ac W rs he hA => stepOk_want rfl (op_load rfl (show ac.eval (.tmp 55) = .pointer (some ⟨g, offH 4, none⟩) from he.val 7 55 (by kernel_rfl) rfl rfl) (loadSaidH hs (hA.src) 4 (by decide)) rfl))
  · refine cvStep_put (k := 2) rfl (.inr (by kernel_rfl)) (fun ac W rs hlen he hA => ⟨rfl, ?_⟩)
    have e0 : ac.eval (.tmp 54) = rs.getLastD v0 := (he.res 1 54 (by decide) (by kernel_rfl) rfl).trans (getD_last hlen v0)
    have e1 : ac.eval (.tmp 56) = .agg (hC (s.h 4)) := he.val 8 56 (by kernel_rfl) rfl rfl
    exact op_callFK (vs := #[rs.getLastD v0, .agg (hC (s.h 4))]) rfl (by simp only [List.map_toArray, List.map_cons, List.map_nil, e0, e1]) (enters_of Tryz.func37 (by kernel_rfl) rfl) ((ba_hash hs h512 hA 4 (by decide) (by rw [hlen, hk]; rfl)).mono fun e W' ⟨v, he', hb⟩ => ⟨v, he', v, rfl, hb⟩)
  intro xs W hA hx hk2 hgt
  have hA : BA w1 g s v0 0 [xs 3, xs 6, xs 9] W := hA
  refine last_assign rfl (hgt 9 57 (by decide) (by kernel_rfl)) ?_
  clear hx hk2 hgt hA0
  simp only [initL, lastL, putL, Nat.reduceAdd, Act.put, List.setIfInBounds_toArray, List.set_cons_succ, List.set_cons_zero]
  go_wp2_with fail
  go_ret
  refine ⟨_, rfl, ?_, ?_⟩
  · have h1 := hA.own.mono (Nat.le_succ g)
    have h2 := HG.out
    subst h2
    unfold body
    rw [show ∀ n, n = (flds s.kind).length → (flds s.kind).take n = flds s.kind from fun n e => by rw [e, List.take_length]] at h1
    · exact h1
    · rw [hk]; rfl
  · have h2 := HG.out
    subst h2
    exact hb.trans (hA.low.mono (Nat.le_succ _))
set_option maxRecDepth 100000 in
set_option maxHeartbeats 4000000 in
theorem rbody3 (s : Said) (hs : s.wf) (hk : s.kind = 3) (h512 : s.route.length ≤ 512) (hok : ∀ f ∈ flds s.kind, layOk s f) (w : World) : Calls Tryz.prog 14 #[.agg (saidC s)] w fun e w' => ∃ v, e = .returned v ∧ Own 5 w' w.heap.size v (body s) ∧ Below w.heap.size w w' := by
  have k1 := Row.new w 29 (saidC s)
  have hb := below_new w (.cells (saidC s) 29)
  have hbx := boxSaid hs w
  have hz : w.heap.size + 1 ≤ (w.alloc (.cells (saidC s) 29)).heap.size := k1.lt
  go_enter Tryz.func14, Tryz.ntmps14
  go_upto_region 1 with fail
  obtain ⟨g, hg⟩ : ∃ q, q = w.heap.size := ⟨_, rfl⟩
  rw [← hg] at k1 hz ⊢
  have HG := Lib.hid hg
  clear hbx hg
  generalize w.alloc (.cells (saidC s) 29) = w1 at *
  have c0 : w1.cell? ⟨g, 0, none⟩ = some (.int .i64 (3)) := (k1.cell 0).trans ((saidC_kind hs).trans (by rw [hk]))
  have hnum := refNumA_any (.slice none 0 0) [] (g + 1) (((3) : Int).toNat) w1 (Own.nil _ _ _) hz (by decide) (by decide)
  go_upto_region 2 with (first
    | (go_at_call 36; refine hnum.mono ?_; clear hnum; rintro e w2 ⟨v0, rfl, hown0, hb2⟩)
    | fail)
  clear c0
  have k2 := k1.below (hb2.mono (Nat.le_refl _)) (Nat.lt_succ_self g)
  have hA0 : BA w1 g s v0 0 [] w2 := ⟨hb2, k2, by rw [hk]; exact hown0, Nat.le_trans hz hb2.size⟩
  have c0 : w2.cell? ⟨g, 0, none⟩ = some (.int .i64 (3)) := (k2.cell 0).trans ((saidC_kind hs).trans (by rw [hk]))
  clear k1 k2 hown0 hb2
  go_upto_region 9 with fail
  refine (wpIn_wide (n := 0)).1 ?_
  refine wpIn_region_cv wide_wide [v0, .pointer (some ⟨g, offH 6, none⟩), .agg (hC (s.h 6)), undef, .pointer (some ⟨g, offN 9, none⟩), .int .i64 (s.n 9), undef, .pointer (some ⟨g, offH 7, none⟩), .agg (hC (s.h 7)), undef] [3, 6, 9] (BA w1 g s v0 0) (fun rs W W' hL h => h.later hL) hA0 (by kernel_rfl) (by kernel_rfl) (by kernel_rfl) (by kernel_rfl) (by kernel_rfl) (by kernel_rfl) rfl (by decide) rfl ⟨?_, ?_, ?_, ?_, ?_, ?_, ?_, ?_, ?_, ?_, trivial⟩ ?_
  · exact cvStep_val rfl (fun ac W rs he hA => stepOk_want rfl (op_move rfl (he.keep (.tmp 3) (by kernel_rfl))))
  · exact cvStep_val rfl (fun ac W rs he hA => stepOk_want rfl (op_fieldAddr rfl (he.keep (.tmp 1) (by kernel_rfl)) (fieldSd 7 200 (by decide)) rfl))
  · exact cvStep_val rfl (fun ac W rs he hA => stepOk_want rfl (op_load rfl (show ac.eval (.tmp 61) = .pointer (some ⟨g, offH 6, none⟩) from he.val 1 61 (by kernel_rfl) rfl rfl) (loadSaidH hs (hA.src) 6 (by decide)) rfl))
  · refine cvStep_put (k := 0) rfl (.inl rfl) (fun ac W rs hlen he hA => ⟨rfl, ?_⟩)
    obtain rfl := List.eq_nil_of_length_eq_zero hlen
    have e0 : ac.eval (.tmp 60) = ([] : List Value).getLastD v0 := he.val 0 60 (by kernel_rfl) rfl rfl
    have e1 : ac.eval (.tmp 62) = .agg (hC (s.h 6)) := he.val 2 62 (by kernel_rfl) rfl rfl
    exact op_callFK (vs := #[([] : List Value).getLastD v0, .agg (hC (s.h 6))]) rfl (by simp only [List.map_toArray, List.map_cons, List.map_nil, e0, e1]) (enters_of Tryz.func37 (by kernel_rfl) rfl) ((ba_hash hs h512 hA 6 (by decide) (by rw [hk]; rfl)).mono fun e W' ⟨v, he', hb⟩ => ⟨v, he', v, rfl, hb⟩)
  · exact cvStep_val rfl (fun ac W rs he hA => stepOk_want rfl (op_fieldAddr rfl (he.keep (.tmp 1) (by kernel_rfl)) (fieldSd 12 298 (by decide)) rfl))
  · exact cvStep_val rfl (fun ac W rs he hA => stepOk_want rfl (op_load rfl (show ac.eval (.tmp 64) = .pointer (some ⟨g, offN 9, none⟩) from he.val 4 64 (by kernel_rfl) rfl rfl) (loadSaidN hs (hA.src) 9 (by decide)) rfl))
  · refine cvStep_put (k := 1) rfl (.inr (by kernel_rfl)) (fun ac W rs hlen he hA => ⟨rfl, ?_⟩)
    have e0 : ac.eval (.tmp 63) = rs.getLastD v0 := (he.res 0 63 (by decide) (by kernel_rfl) rfl).trans (getD_last hlen v0)
    have e1 : ac.eval (.tmp 65) = .int .i64 (s.n 9) := he.val 5 65 (by kernel_rfl) rfl rfl
    exact op_callFK (vs := #[rs.getLastD v0, .int .i64 (s.n 9)]) rfl (by simp only [List.map_toArray, List.map_cons, List.map_nil, e0, e1]) (enters_of Tryz.func36 (by kernel_rfl) rfl) ((ba_num hs h512 hok hA 9 2147483647 (by rw [hlen, hk]; rfl)).mono fun e W' ⟨v, he', hb⟩ => ⟨v, he', v, rfl, hb⟩)
  · exact cvStep_val rfl (fun ac W rs he hA => stepOk_want rfl (op_fieldAddr rfl (he.keep (.tmp 1) (by kernel_rfl)) (fieldSd 8 232 (by decide)) rfl))
  · exact cvStep_val rfl (fun ac W rs he hA => stepOk_want rfl (op_load rfl (show ac.eval (.tmp 67) = .pointer (some ⟨g, offH 7, none⟩) from he.val 7 67 (by kernel_rfl) rfl rfl) (loadSaidH hs (hA.src) 7 (by decide)) rfl))
  · refine cvStep_put (k := 2) rfl (.inr (by kernel_rfl)) (fun ac W rs hlen he hA => ⟨rfl, ?_⟩)
    have e0 : ac.eval (.tmp 66) = rs.getLastD v0 := (he.res 1 66 (by decide) (by kernel_rfl) rfl).trans (getD_last hlen v0)
    have e1 : ac.eval (.tmp 68) = .agg (hC (s.h 7)) := he.val 8 68 (by kernel_rfl) rfl rfl
    exact op_callFK (vs := #[rs.getLastD v0, .agg (hC (s.h 7))]) rfl (by simp only [List.map_toArray, List.map_cons, List.map_nil, e0, e1]) (enters_of Tryz.func37 (by kernel_rfl) rfl) ((ba_hash hs h512 hA 7 (by decide) (by rw [hlen, hk]; rfl)).mono fun e W' ⟨v, he', hb⟩ => ⟨v, he', v, rfl, hb⟩)
  intro xs W hA hx hk2 hgt
  have hA : BA w1 g s v0 0 [xs 3, xs 6, xs 9] W := hA
  refine last_assign rfl (hgt 9 69 (by decide) (by kernel_rfl)) ?_
  clear hx hk2 hgt hA0
  simp only [initL, lastL, putL, Nat.reduceAdd, Act.put, List.setIfInBounds_toArray, List.set_cons_succ, List.set_cons_zero]
  go_wp2_with fail
  go_ret
  refine ⟨_, rfl, ?_, ?_⟩
  · have h1 := hA.own.mono (Nat.le_succ g)
    have h2 := HG.out
    subst h2
    unfold body
    rw [show ∀ n, n = (flds s.kind).length → (flds s.kind).take n = flds s.kind from fun n e => by rw [e, List.take_length]] at h1
    · exact h1
    · rw [hk]; rfl
  · have h2 := HG.out
    subst h2
    exact hb.trans (hA.low.mono (Nat.le_succ _))
set_option maxRecDepth 100000 in
set_option maxHeartbeats 4000000 in
theorem rbody4 (s : Said) (hs : s.wf) (hk : s.kind = 4) (h512 : s.route.length ≤ 512) (hok : ∀ f ∈ flds s.kind, layOk s f) (w : World) : Calls Tryz.prog 14 #[.agg (saidC s)] w fun e w' => ∃ v, e = .returned v ∧ Own 5 w' w.heap.size v (body s) ∧ Below w.heap.size w w' := by
  have k1 := Row.new w 29 (saidC s)
  have hb := below_new w (.cells (saidC s) 29)
  have hbx := boxSaid hs w
  have hz : w.heap.size + 1 ≤ (w.alloc (.cells (saidC s) 29)).heap.size := k1.lt
  go_enter Tryz.func14, Tryz.ntmps14
  go_upto_region 1 with fail
  obtain ⟨g, hg⟩ : ∃ q, q = w.heap.size := ⟨_, rfl⟩
  rw [← hg] at k1 hz ⊢
  have HG := Lib.hid hg
  clear hbx hg
  generalize w.alloc (.cells (saidC s) 29) = w1 at *
  have c0 : w1.cell? ⟨g, 0, none⟩ = some (.int .i64 (4)) := (k1.cell 0).trans ((saidC_kind hs).trans (by rw [hk]))
  have hnum := refNumA_any (.slice none 0 0) [] (g + 1) (((4) : Int).toNat) w1 (Own.nil _ _ _) hz (by decide) (by decide)
  go_upto_region 2 with (first
    | (go_at_call 36; refine hnum.mono ?_; clear hnum; rintro e w2 ⟨v0, rfl, hown0, hb2⟩)
    | fail)
  clear c0
  have k2 := k1.below (hb2.mono (Nat.le_refl _)) (Nat.lt_succ_self g)
  have hA0 : BA w1 g s v0 0 [] w2 := ⟨hb2, k2, by rw [hk]; exact hown0, Nat.le_trans hz hb2.size⟩
  have c0 : w2.cell? ⟨g, 0, none⟩ = some (.int .i64 (4)) := (k2.cell 0).trans ((saidC_kind hs).trans (by rw [hk]))
  clear k1 k2 hown0 hb2
  go_upto_region 11 with fail
  have hld := loadSaidH hs hA0.src 7 (by decide)
  have hc := ba_hash hs h512 hA0 7 (by decide) (by rw [hk]; rfl)
  clear hA0
  go_wp2_with (first
    | (guard_target =~ wpList _ _ _ (_ :: _) _ _; refine wpList_load rfl 24 (.tmp 73) rfl (.pointer (some ⟨g, offH 7, none⟩)) rfl hld ?_)
    | (go_at_call 37; refine hc.mono ?_; clear hc; rintro e W ⟨v9, rfl, hA⟩)
    | fail)
  have hA : BA w1 g s v0 0 [v9] W := hA
  go_ret
  refine ⟨_, rfl, ?_, ?_⟩
  · have h1 := hA.own.mono (Nat.le_succ g)
    have h2 := HG.out
    subst h2
    unfold body
    rw [show ∀ n, n = (flds s.kind).length → (flds s.kind).take n = flds s.kind from fun n e => by rw [e, List.take_length]] at h1
    · exact h1
    · rw [hk]; rfl
  · have h2 := HG.out
    subst h2
    exact hb.trans (hA.low.mono (Nat.le_succ _))
set_option maxRecDepth 100000 in
set_option maxHeartbeats 4000000 in
theorem rbody5 (s : Said) (hs : s.wf) (hk : s.kind = 5) (h512 : s.route.length ≤ 512) (hok : ∀ f ∈ flds s.kind, layOk s f) (w : World) : Calls Tryz.prog 14 #[.agg (saidC s)] w fun e w' => ∃ v, e = .returned v ∧ Own 5 w' w.heap.size v (body s) ∧ Below w.heap.size w w' := by
  have k1 := Row.new w 29 (saidC s)
  have hb := below_new w (.cells (saidC s) 29)
  have hbx := boxSaid hs w
  have hz : w.heap.size + 1 ≤ (w.alloc (.cells (saidC s) 29)).heap.size := k1.lt
  go_enter Tryz.func14, Tryz.ntmps14
  go_upto_region 1 with fail
  obtain ⟨g, hg⟩ : ∃ q, q = w.heap.size := ⟨_, rfl⟩
  rw [← hg] at k1 hz ⊢
  have HG := Lib.hid hg
  clear hbx hg
  generalize w.alloc (.cells (saidC s) 29) = w1 at *
  have c0 : w1.cell? ⟨g, 0, none⟩ = some (.int .i64 (5)) := (k1.cell 0).trans ((saidC_kind hs).trans (by rw [hk]))
  have hnum := refNumA_any (.slice none 0 0) [] (g + 1) (((5) : Int).toNat) w1 (Own.nil _ _ _) hz (by decide) (by decide)
  go_upto_region 2 with (first
    | (go_at_call 36; refine hnum.mono ?_; clear hnum; rintro e w2 ⟨v0, rfl, hown0, hb2⟩)
    | fail)
  clear c0
  have k2 := k1.below (hb2.mono (Nat.le_refl _)) (Nat.lt_succ_self g)
  have hA0 : BA w1 g s v0 0 [] w2 := ⟨hb2, k2, by rw [hk]; exact hown0, Nat.le_trans hz hb2.size⟩
  have c0 : w2.cell? ⟨g, 0, none⟩ = some (.int .i64 (5)) := (k2.cell 0).trans ((saidC_kind hs).trans (by rw [hk]))
  clear k1 k2 hown0 hb2
  have hA := hA0
  clear hA0
  go_wp2_with fail
  go_ret
  refine ⟨_, rfl, ?_, ?_⟩
  · have h1 := hA.own.mono (Nat.le_succ g)
    have h2 := HG.out
    subst h2
    unfold body
    rw [show ∀ n, n = (flds s.kind).length → (flds s.kind).take n = flds s.kind from fun n e => by rw [e, List.take_length]] at h1
    · exact h1
    · rw [hk]; rfl
  · have h2 := HG.out
    subst h2
    exact hb.trans (hA.low.mono (Nat.le_succ _))
set_option maxRecDepth 100000 in
set_option maxHeartbeats 4000000 in
theorem rbody6 (s : Said) (hs : s.wf) (hk : s.kind = 6) (h512 : s.route.length ≤ 512) (hok : ∀ f ∈ flds s.kind, layOk s f) (w : World) : Calls Tryz.prog 14 #[.agg (saidC s)] w fun e w' => ∃ v, e = .returned v ∧ Own 5 w' w.heap.size v (body s) ∧ Below w.heap.size w w' := by
  have k1 := Row.new w 29 (saidC s)
  have hb := below_new w (.cells (saidC s) 29)
  have hbx := boxSaid hs w
  have hz : w.heap.size + 1 ≤ (w.alloc (.cells (saidC s) 29)).heap.size := k1.lt
  go_enter Tryz.func14, Tryz.ntmps14
  go_upto_region 1 with fail
  obtain ⟨g, hg⟩ : ∃ q, q = w.heap.size := ⟨_, rfl⟩
  rw [← hg] at k1 hz ⊢
  have HG := Lib.hid hg
  clear hbx hg
  generalize w.alloc (.cells (saidC s) 29) = w1 at *
  have c0 : w1.cell? ⟨g, 0, none⟩ = some (.int .i64 (6)) := (k1.cell 0).trans ((saidC_kind hs).trans (by rw [hk]))
  have hnum := refNumA_any (.slice none 0 0) [] (g + 1) (((6) : Int).toNat) w1 (Own.nil _ _ _) hz (by decide) (by decide)
  go_upto_region 2 with (first
    | (go_at_call 36; refine hnum.mono ?_; clear hnum; rintro e w2 ⟨v0, rfl, hown0, hb2⟩)
    | fail)
  clear c0
  have k2 := k1.below (hb2.mono (Nat.le_refl _)) (Nat.lt_succ_self g)
  have hA0 : BA w1 g s v0 0 [] w2 := ⟨hb2, k2, by rw [hk]; exact hown0, Nat.le_trans hz hb2.size⟩
  have c0 : w2.cell? ⟨g, 0, none⟩ = some (.int .i64 (6)) := (k2.cell 0).trans ((saidC_kind hs).trans (by rw [hk]))
  clear k1 k2 hown0 hb2
  go_upto_region 13 with fail
  refine (wpIn_wide (n := 0)).1 ?_
  refine wpIn_region_cv wide_wide [v0, .pointer (some ⟨g, offN 7, none⟩), .int .i64 (s.n 7), undef, .pointer (some ⟨g, offN 6, none⟩), .int .i64 (s.n 6), undef, .pointer (some ⟨g, offH 6, none⟩), .agg (hC (s.h 6)), undef, .pointer (some ⟨g, offN 10, none⟩), .int .i64 (s.n 10), undef, .pointer (some ⟨g, 301, none⟩), .string ⟨s.route.toArray⟩, undef, undef] [3, 6, 9, 12, 15, 16] (BR w1 g s v0 4) (fun rs W W' hL h => h.later hL) (BR.of hA0 (by decide)) (by kernel_rfl) (by kernel_rfl) (by kernel_rfl) (by kernel_rfl) (by kernel_rfl) (by kernel_rfl) rfl (by decide) rfl ⟨?_, ?_, ?_, ?_, ?_, ?_, ?_, ?_, ?_, ?_, ?_, ?_, ?_, ?_, ?_, ?_, ?_, trivial⟩ ?_
  · exact cvStep_val rfl (fun ac W rs he hA => stepOk_want rfl (op_move rfl (he.keep (.tmp 3) (by kernel_rfl))))
  · exact cvStep_val rfl (fun ac W rs he hA => stepOk_want rfl (op_fieldAddr rfl (he.keep (.tmp 1) (by kernel_rfl)) (fieldSd 10 296 (by decide)) rfl))
  · exact cvStep_val rfl (fun ac W rs he hA => stepOk_want rfl (op_load rfl (show ac.eval (.tmp 79) = .pointer (some ⟨g, offN 7, none⟩) from he.val 1 79 (by kernel_rfl) rfl rfl) (loadSaidN hs (hA.2.2.2) 7 (by decide)) rfl))
  · refine cvStep_put (k := 0) rfl (.inl rfl) (fun ac W rs hlen he hA => ⟨rfl, ?_⟩)
    obtain rfl := List.eq_nil_of_length_eq_zero hlen
    have e0 : ac.eval (.tmp 78) = ([] : List Value).getLastD v0 := he.val 0 78 (by kernel_rfl) rfl rfl
    have e1 : ac.eval (.tmp 80) = .int .i64 (s.n 7) := he.val 2 80 (by kernel_rfl) rfl rfl
    exact op_callFK (vs := #[([] : List Value).getLastD v0, .int .i64 (s.n 7)]) rfl (by simp only [List.map_toArray, List.map_cons, List.map_nil, e0, e1]) (enters_of Tryz.func36 (by kernel_rfl) rfl) ((ba_num hs h512 hok (hA.1 (by omega)) 7 2147483647 (by rw [hk]; rfl)).mono fun e W' ⟨v, he', hb⟩ => ⟨v, he', v, rfl, BR.of hb (by simp only [List.length_append, List.length_singleton, List.length_nil]; omega)⟩)
  · exact cvStep_val rfl (fun ac W rs he hA => stepOk_want rfl (op_fieldAddr rfl (he.keep (.tmp 1) (by kernel_rfl)) (fieldSd 3 103 (by decide)) rfl))
  · exact cvStep_val rfl (fun ac W rs he hA => stepOk_want rfl (op_load rfl (show ac.eval (.tmp 82) = .pointer (some ⟨g, offN 6, none⟩) from he.val 4 82 (by kernel_rfl) rfl rfl) (loadSaidN hs (hA.2.2.2) 6 (by decide)) rfl))
  · refine cvStep_put (k := 1) rfl (.inr (by kernel_rfl)) (fun ac W rs hlen he hA => ⟨rfl, ?_⟩)
    have e0 : ac.eval (.tmp 81) = rs.getLastD v0 := (he.res 0 81 (by decide) (by kernel_rfl) rfl).trans (getD_last hlen v0)
    have e1 : ac.eval (.tmp 83) = .int .i64 (s.n 6) := he.val 5 83 (by kernel_rfl) rfl rfl
    exact op_callFK (vs := #[rs.getLastD v0, .int .i64 (s.n 6)]) rfl (by simp only [List.map_toArray, List.map_cons, List.map_nil, e0, e1]) (enters_of Tryz.func36 (by kernel_rfl) rfl) ((ba_num hs h512 hok (hA.1 (by omega)) 6 1125899906842624 (by rw [hlen, hk]; rfl)).mono fun e W' ⟨v, he', hb⟩ => ⟨v, he', v, rfl, BR.of hb (by simp only [List.length_append, List.length_singleton, List.length_nil]; omega)⟩)
  · exact cvStep_val rfl (fun ac W rs he hA => stepOk_want rfl (op_fieldAddr rfl (he.keep (.tmp 1) (by kernel_rfl)) (fieldSd 7 200 (by decide)) rfl))
  · exact cvStep_val rfl (fun ac W rs he hA => stepOk_want rfl (op_load rfl (show ac.eval (.tmp 85) = .pointer (some ⟨g, offH 6, none⟩) from he.val 7 85 (by kernel_rfl) rfl rfl) (loadSaidH hs (hA.2.2.2) 6 (by decide)) rfl))
  · refine cvStep_put (k := 2) rfl (.inr (by kernel_rfl)) (fun ac W rs hlen he hA => ⟨rfl, ?_⟩)
    have e0 : ac.eval (.tmp 84) = rs.getLastD v0 := (he.res 1 84 (by decide) (by kernel_rfl) rfl).trans (getD_last hlen v0)
    have e1 : ac.eval (.tmp 86) = .agg (hC (s.h 6)) := he.val 8 86 (by kernel_rfl) rfl rfl
    exact op_callFK (vs := #[rs.getLastD v0, .agg (hC (s.h 6))]) rfl (by simp only [List.map_toArray, List.map_cons, List.map_nil, e0, e1]) (enters_of Tryz.func37 (by kernel_rfl) rfl) ((ba_hash hs h512 (hA.1 (by omega)) 6 (by decide) (by rw [hlen, hk]; rfl)).mono fun e W' ⟨v, he', hb⟩ => ⟨v, he', v, rfl, BR.of hb (by simp only [List.length_append, List.length_singleton, List.length_nil]; omega)⟩)
  · exact cvStep_val rfl (fun ac W rs he hA => stepOk_want rfl (op_fieldAddr rfl (he.keep (.tmp 1) (by kernel_rfl)) (fieldSd 13 299 (by decide)) rfl))
  · exact cvStep_val rfl (fun ac W rs he hA => stepOk_want rfl (op_load rfl (show ac.eval (.tmp 88) = .pointer (some ⟨g, offN 10, none⟩) from he.val 10 88 (by kernel_rfl) rfl rfl) (loadSaidN hs (hA.2.2.2) 10 (by decide)) rfl))
  · refine cvStep_put (k := 3) rfl (.inr (by kernel_rfl)) (fun ac W rs hlen he hA => ⟨rfl, ?_⟩)
    have e0 : ac.eval (.tmp 87) = rs.getLastD v0 := (he.res 2 87 (by decide) (by kernel_rfl) rfl).trans (getD_last hlen v0)
    have e1 : ac.eval (.tmp 89) = .int .i64 (s.n 10) := he.val 11 89 (by kernel_rfl) rfl rfl
    exact op_callFK (vs := #[rs.getLastD v0, .int .i64 (s.n 10)]) rfl (by simp only [List.map_toArray, List.map_cons, List.map_nil, e0, e1]) (enters_of Tryz.func36 (by kernel_rfl) rfl) ((ba_num hs h512 hok (hA.1 (by omega)) 10 2147483647 (by rw [hlen, hk]; rfl)).mono fun e W' ⟨v, he', hb⟩ => ⟨v, he', v, rfl, BR.of hb (by simp only [List.length_append, List.length_singleton, List.length_nil]; omega)⟩)
  · exact cvStep_val rfl (fun ac W rs he hA => stepOk_want rfl (op_fieldAddr rfl (he.keep (.tmp 1) (by kernel_rfl)) (fieldSd 15 301 (by decide)) rfl))
  · exact cvStep_val rfl (fun ac W rs he hA => stepOk_want rfl (op_load rfl (show ac.eval (.tmp 91) = .pointer (some ⟨g, 301, none⟩) from he.val 13 91 (by kernel_rfl) rfl rfl) (loadSaidR hs (hA.2.2.2)) rfl))
  · refine cvStep_put (k := 4) rfl (.inr (by kernel_rfl)) (fun ac W rs hlen he hA => ⟨rfl, ?_⟩)
    have e1 : ac.eval (.tmp 92) = .string ⟨s.route.toArray⟩ := he.val 14 92 (by kernel_rfl) rfl rfl
    exact op_callFK (vs := #[.string ⟨s.route.toArray⟩]) rfl (by simp only [List.map_toArray, List.map_cons, List.map_nil, e1]) (enters_of Tryz.func38 (by kernel_rfl) rfl) ((br_text h512 hA hlen).mono fun e W' ⟨v, he', hb⟩ => ⟨v, he', v, rfl, hb⟩)
  · refine cvStep_put (k := 5) rfl (.inr (by kernel_rfl)) (fun ac W rs hlen he hA => ⟨rfl, ?_⟩)
    obtain ⟨r0, A, c, rfl, hB, hrd⟩ := hA.2.1 hlen
    have hl0 : r0.length = 4 := by simpa using hlen
    have e0 : ac.eval (.tmp 90) = r0.getLastD v0 := (he.res 3 90 (by decide) (by kernel_rfl) rfl).trans (by rw [List.getD_eq_getElem?_getD, List.getElem?_append_left (by omega), ← List.getD_eq_getElem?_getD]; exact getD_last hl0 v0)
    have e1 : ac.eval (.tmp 93) = .slice A (lay s .route).length c := (he.res 4 93 (by decide) (by kernel_rfl) rfl).trans (by rw [List.getD_eq_getElem?_getD, List.getElem?_append_right (by omega), hl0]; rfl)
    have hl := hB.len hs h512
    have hl2 : (lay s .route).length ≤ 521 := lay_le hs h512 (fun j e => by cases e)
    exact op_append_bytes (.tmp 90) (.tmp 93) 32 rfl (g + 1) 5 Tryz.underlying32 byteInfo _ _ e0 hB.own A _ c _ e1 rfl hrd (by omega) hB.sz (fun v' w' ho hg _ => ⟨v', rfl, fun e => by simp at e; omega, fun e => by simp at e; omega, fun _ => ⟨r0, _, v', rfl, hB.step (f := .route) (by rw [hl0, hk]; rfl) ho ((Below.refl (g + 1) _).grown hg hB.sz (fun q e => (hB.own.at_ q e).1))⟩, hB.src.below (((Below.refl (g + 1) _).grown hg hB.sz (fun q e => (hB.own.at_ q e).1)).mono (Nat.le_refl _)) (Nat.lt_succ_self g)⟩)
  intro xs W hA hx hk2 hgt
  obtain ⟨r0, x, v9, e9, hA⟩ := hA.done rfl
  have e8 : xs 16 = v9 ∧ r0 = [xs 3, xs 6, xs 9, xs 12] := by
    have e9 : [xs 3, xs 6, xs 9, xs 12] ++ [xs 15] ++ [xs 16] = r0 ++ [x] ++ [v9] := e9
    obtain ⟨a1, a2⟩ := List.append_inj' e9 rfl
    obtain ⟨a3, _⟩ := List.append_inj' a1 rfl
    exact ⟨List.singleton_inj.1 a2, a3.symm⟩
  obtain ⟨e8, e7⟩ := e8
  subst e7 e8
  have hA : BA w1 g s v0 0 [xs 3, xs 6, xs 9, xs 12, xs 16] W := hA
  refine last_assign rfl (hgt 16 94 (by decide) (by kernel_rfl)) ?_
  clear hx hk2 hgt hA0
  simp only [initL, lastL, putL, Nat.reduceAdd, Act.put, List.setIfInBounds_toArray, List.set_cons_succ, List.set_cons_zero]
  go_wp2_with fail
  go_ret
  refine ⟨_, rfl, ?_, ?_⟩
  · have h1 := hA.own.mono (Nat.le_succ g)
    have h2 := HG.out
    subst h2
    unfold body
    rw [show ∀ n, n = (flds s.kind).length → (flds s.kind).take n = flds s.kind from fun n e => by rw [e, List.take_length]] at h1
    · exact h1
    · rw [hk]; rfl
  · have h2 := HG.out
    subst h2
    exact hb.trans (hA.low.mono (Nat.le_succ _))
set_option maxRecDepth 100000 in
set_option maxHeartbeats 4000000 in
theorem rbody7 (s : Said) (hs : s.wf) (hk : s.kind = 7) (h512 : s.route.length ≤ 512) (hok : ∀ f ∈ flds s.kind, layOk s f) (w : World) : Calls Tryz.prog 14 #[.agg (saidC s)] w fun e w' => ∃ v, e = .returned v ∧ Own 5 w' w.heap.size v (body s) ∧ Below w.heap.size w w' := by
  have k1 := Row.new w 29 (saidC s)
  have hb := below_new w (.cells (saidC s) 29)
  have hbx := boxSaid hs w
  have hz : w.heap.size + 1 ≤ (w.alloc (.cells (saidC s) 29)).heap.size := k1.lt
  go_enter Tryz.func14, Tryz.ntmps14
  go_upto_region 1 with fail
  obtain ⟨g, hg⟩ : ∃ q, q = w.heap.size := ⟨_, rfl⟩
  rw [← hg] at k1 hz ⊢
  have HG := Lib.hid hg
  clear hbx hg
  generalize w.alloc (.cells (saidC s) 29) = w1 at *
  have c0 : w1.cell? ⟨g, 0, none⟩ = some (.int .i64 (7)) := (k1.cell 0).trans ((saidC_kind hs).trans (by rw [hk]))
  have hnum := refNumA_any (.slice none 0 0) [] (g + 1) (((7) : Int).toNat) w1 (Own.nil _ _ _) hz (by decide) (by decide)
  go_upto_region 2 with (first
    | (go_at_call 36; refine hnum.mono ?_; clear hnum; rintro e w2 ⟨v0, rfl, hown0, hb2⟩)
    | fail)
  clear c0
  have k2 := k1.below (hb2.mono (Nat.le_refl _)) (Nat.lt_succ_self g)
  have hA0 : BA w1 g s v0 0 [] w2 := ⟨hb2, k2, by rw [hk]; exact hown0, Nat.le_trans hz hb2.size⟩
  have c0 : w2.cell? ⟨g, 0, none⟩ = some (.int .i64 (7)) := (k2.cell 0).trans ((saidC_kind hs).trans (by rw [hk]))
  clear k1 k2 hown0 hb2
  go_upto_region 15 with fail
  refine (wpIn_wide (n := 0)).1 ?_
  refine wpIn_region_cv wide_wide [v0, .pointer (some ⟨g, offN 7, none⟩), .int .i64 (s.n 7), undef, .pointer (some ⟨g, offH 8, none⟩), .agg (hC (s.h 8)), undef] [3, 6] (BA w1 g s v0 0) (fun rs W W' hL h => h.later hL) hA0 (by kernel_rfl) (by kernel_rfl) (by kernel_rfl) (by kernel_rfl) (by kernel_rfl) (by kernel_rfl) rfl (by decide) rfl ⟨?_, ?_, ?_, ?_, ?_, ?_, ?_, trivial⟩ ?_
  · exact cvStep_val rfl (fun ac W rs he hA => stepOk_want rfl (op_move rfl (he.keep (.tmp 3) (by kernel_rfl))))
  · exact cvStep_val rfl (fun ac W rs he hA => stepOk_want rfl (op_fieldAddr rfl (he.keep (.tmp 1) (by kernel_rfl)) (fieldSd 10 296 (by decide)) rfl))
  · exact cvStep_val rfl (fun ac W rs he hA => stepOk_want rfl (op_load rfl (show ac.eval (.tmp 98) = .pointer (some ⟨g, offN 7, none⟩) from he.val 1 98 (by kernel_rfl) rfl rfl) (loadSaidN hs (hA.src) 7 (by decide)) rfl))
  · refine cvStep_put (k := 0) rfl (.inl rfl) (fun ac W rs hlen he hA => ⟨rfl, ?_⟩)
    obtain rfl := List.eq_nil_of_length_eq_zero hlen
    have e0 : ac.eval (.tmp 97) = ([] : List Value).getLastD v0 := he.val 0 97 (by kernel_rfl) rfl rfl
    have e1 : ac.eval (.tmp 99) = .int .i64 (s.n 7) := he.val 2 99 (by kernel_rfl) rfl rfl
    exact op_callFK (vs := #[([] : List Value).getLastD v0, .int .i64 (s.n 7)]) rfl (by simp only [List.map_toArray, List.map_cons, List.map_nil, e0, e1]) (enters_of Tryz.func36 (by kernel_rfl) rfl) ((ba_num hs h512 hok hA 7 2147483647 (by rw [hk]; rfl)).mono fun e W' ⟨v, he', hb⟩ => ⟨v, he', v, rfl, hb⟩)
  · exact cvStep_val rfl (fun ac W rs he hA => stepOk_want rfl (op_fieldAddr rfl (he.keep (.tmp 1) (by kernel_rfl)) (fieldSd 9 264 (by decide)) rfl))
  · exact cvStep_val rfl (fun ac W rs he hA => stepOk_want rfl (op_load rfl (show ac.eval (.tmp 101) = .pointer (some ⟨g, offH 8, none⟩) from he.val 4 101 (by kernel_rfl) rfl rfl) (loadSaidH hs (hA.src) 8 (by decide)) rfl))
  · refine cvStep_put (k := 1) rfl (.inr (by kernel_rfl)) (fun ac W rs hlen he hA => ⟨rfl, ?_⟩)
    have e0 : ac.eval (.tmp 100) = rs.getLastD v0 := (he.res 0 100 (by decide) (by kernel_rfl) rfl).trans (getD_last hlen v0)
    have e1 : ac.eval (.tmp 102) = .agg (hC (s.h 8)) := he.val 5 102 (by kernel_rfl) rfl rfl
    exact op_callFK (vs := #[rs.getLastD v0, .agg (hC (s.h 8))]) rfl (by simp only [List.map_toArray, List.map_cons, List.map_nil, e0, e1]) (enters_of Tryz.func37 (by kernel_rfl) rfl) ((ba_hash hs h512 hA 8 (by decide) (by rw [hlen, hk]; rfl)).mono fun e W' ⟨v, he', hb⟩ => ⟨v, he', v, rfl, hb⟩)
  intro xs W hA hx hk2 hgt
  have hA : BA w1 g s v0 0 [xs 3, xs 6] W := hA
  refine last_assign rfl (hgt 6 103 (by decide) (by kernel_rfl)) ?_
  clear hx hk2 hgt hA0
  simp only [initL, lastL, putL, Nat.reduceAdd, Act.put, List.setIfInBounds_toArray, List.set_cons_succ, List.set_cons_zero]
  go_wp2_with fail
  go_ret
  refine ⟨_, rfl, ?_, ?_⟩
  · have h1 := hA.own.mono (Nat.le_succ g)
    have h2 := HG.out
    subst h2
    unfold body
    rw [show ∀ n, n = (flds s.kind).length → (flds s.kind).take n = flds s.kind from fun n e => by rw [e, List.take_length]] at h1
    · exact h1
    · rw [hk]; rfl
  · have h2 := HG.out
    subst h2
    exact hb.trans (hA.low.mono (Nat.le_succ _))
set_option maxRecDepth 100000 in
set_option maxHeartbeats 4000000 in
theorem rbody8 (s : Said) (hs : s.wf) (hk : s.kind = 8) (h512 : s.route.length ≤ 512) (hok : ∀ f ∈ flds s.kind, layOk s f) (w : World) : Calls Tryz.prog 14 #[.agg (saidC s)] w fun e w' => ∃ v, e = .returned v ∧ Own 5 w' w.heap.size v (body s) ∧ Below w.heap.size w w' := by
  have k1 := Row.new w 29 (saidC s)
  have hb := below_new w (.cells (saidC s) 29)
  have hbx := boxSaid hs w
  have hz : w.heap.size + 1 ≤ (w.alloc (.cells (saidC s) 29)).heap.size := k1.lt
  go_enter Tryz.func14, Tryz.ntmps14
  go_upto_region 1 with fail
  obtain ⟨g, hg⟩ : ∃ q, q = w.heap.size := ⟨_, rfl⟩
  rw [← hg] at k1 hz ⊢
  have HG := Lib.hid hg
  clear hbx hg
  generalize w.alloc (.cells (saidC s) 29) = w1 at *
  have c0 : w1.cell? ⟨g, 0, none⟩ = some (.int .i64 (8)) := (k1.cell 0).trans ((saidC_kind hs).trans (by rw [hk]))
  have hnum := refNumA_any (.slice none 0 0) [] (g + 1) (((8) : Int).toNat) w1 (Own.nil _ _ _) hz (by decide) (by decide)
  go_upto_region 2 with (first
    | (go_at_call 36; refine hnum.mono ?_; clear hnum; rintro e w2 ⟨v0, rfl, hown0, hb2⟩)
    | fail)
  clear c0
  have k2 := k1.below (hb2.mono (Nat.le_refl _)) (Nat.lt_succ_self g)
  have hA0 : BA w1 g s v0 0 [] w2 := ⟨hb2, k2, by rw [hk]; exact hown0, Nat.le_trans hz hb2.size⟩
  have c0 : w2.cell? ⟨g, 0, none⟩ = some (.int .i64 (8)) := (k2.cell 0).trans ((saidC_kind hs).trans (by rw [hk]))
  clear k1 k2 hown0 hb2
  go_upto_region 17 with fail
  refine (wpIn_wide (n := 0)).1 ?_
  refine wpIn_region_cv wide_wide [v0, .pointer (some ⟨g, offN 7, none⟩), .int .i64 (s.n 7), undef, .pointer (some ⟨g, offN 11, none⟩), .int .i64 (s.n 11), undef] [3, 6] (BA w1 g s v0 0) (fun rs W W' hL h => h.later hL) hA0 (by kernel_rfl) (by kernel_rfl) (by kernel_rfl) (by kernel_rfl) (by kernel_rfl) (by kernel_rfl) rfl (by decide) rfl ⟨?_, ?_, ?_, ?_, ?_, ?_, ?_, trivial⟩ ?_
  · exact cvStep_val rfl (fun ac W rs he hA => stepOk_want rfl (op_move rfl (he.keep (.tmp 3) (by kernel_rfl))))
  · exact cvStep_val rfl (fun ac W rs he hA => stepOk_want rfl (op_fieldAddr rfl (he.keep (.tmp 1) (by kernel_rfl)) (fieldSd 10 296 (by decide)) rfl))
  · exact cvStep_val rfl (fun ac W rs he hA => stepOk_want rfl (op_load rfl (show ac.eval (.tmp 107) = .pointer (some ⟨g, offN 7, none⟩) from he.val 1 107 (by kernel_rfl) rfl rfl) (loadSaidN hs (hA.src) 7 (by decide)) rfl))
  · refine cvStep_put (k := 0) rfl (.inl rfl) (fun ac W rs hlen he hA => ⟨rfl, ?_⟩)
    obtain rfl := List.eq_nil_of_length_eq_zero hlen
    have e0 : ac.eval (.tmp 106) = ([] : List Value).getLastD v0 := he.val 0 106 (by kernel_rfl) rfl rfl
    have e1 : ac.eval (.tmp 108) = .int .i64 (s.n 7) := he.val 2 108 (by kernel_rfl) rfl rfl
    exact op_callFK (vs := #[([] : List Value).getLastD v0, .int .i64 (s.n 7)]) rfl (by simp only [List.map_toArray, List.map_cons, List.map_nil, e0, e1]) (enters_of Tryz.func36 (by kernel_rfl) rfl) ((ba_num hs h512 hok hA 7 2147483647 (by rw [hk]; rfl)).mono fun e W' ⟨v, he', hb⟩ => ⟨v, he', v, rfl, hb⟩)
  · exact cvStep_val rfl (fun ac W rs he hA => stepOk_want rfl (op_fieldAddr rfl (he.keep (.tmp 1) (by kernel_rfl)) (fieldSd 14 300 (by decide)) rfl))
  · exact cvStep_val rfl (fun ac W rs he hA => stepOk_want rfl (op_load rfl (show ac.eval (.tmp 110) = .pointer (some ⟨g, offN 11, none⟩) from he.val 4 110 (by kernel_rfl) rfl rfl) (loadSaidN hs (hA.src) 11 (by decide)) rfl))
  · refine cvStep_put (k := 1) rfl (.inr (by kernel_rfl)) (fun ac W rs hlen he hA => ⟨rfl, ?_⟩)
    have e0 : ac.eval (.tmp 109) = rs.getLastD v0 := (he.res 0 109 (by decide) (by kernel_rfl) rfl).trans (getD_last hlen v0)
    have e1 : ac.eval (.tmp 111) = .int .i64 (s.n 11) := he.val 5 111 (by kernel_rfl) rfl rfl
    exact op_callFK (vs := #[rs.getLastD v0, .int .i64 (s.n 11)]) rfl (by simp only [List.map_toArray, List.map_cons, List.map_nil, e0, e1]) (enters_of Tryz.func36 (by kernel_rfl) rfl) ((ba_num hs h512 hok hA 11 2147483647 (by rw [hlen, hk]; rfl)).mono fun e W' ⟨v, he', hb⟩ => ⟨v, he', v, rfl, hb⟩)
  intro xs W hA hx hk2 hgt
  have hA : BA w1 g s v0 0 [xs 3, xs 6] W := hA
  refine last_assign rfl (hgt 6 112 (by decide) (by kernel_rfl)) ?_
  clear hx hk2 hgt hA0
  simp only [initL, lastL, putL, Nat.reduceAdd, Act.put, List.setIfInBounds_toArray, List.set_cons_succ, List.set_cons_zero]
  go_wp2_with fail
  go_ret
  refine ⟨_, rfl, ?_, ?_⟩
  · have h1 := hA.own.mono (Nat.le_succ g)
    have h2 := HG.out
    subst h2
    unfold body
    rw [show ∀ n, n = (flds s.kind).length → (flds s.kind).take n = flds s.kind from fun n e => by rw [e, List.take_length]] at h1
    · exact h1
    · rw [hk]; rfl
  · have h2 := HG.out
    subst h2
    exact hb.trans (hA.low.mono (Nat.le_succ _))
set_option maxRecDepth 100000 in
set_option maxHeartbeats 4000000 in
theorem rbody9 (s : Said) (hs : s.wf) (hk : s.kind = 9) (h512 : s.route.length ≤ 512) (hok : ∀ f ∈ flds s.kind, layOk s f) (w : World) : Calls Tryz.prog 14 #[.agg (saidC s)] w fun e w' => ∃ v, e = .returned v ∧ Own 5 w' w.heap.size v (body s) ∧ Below w.heap.size w w' := by
  have k1 := Row.new w 29 (saidC s)
  have hb := below_new w (.cells (saidC s) 29)
  have hbx := boxSaid hs w
  have hz : w.heap.size + 1 ≤ (w.alloc (.cells (saidC s) 29)).heap.size := k1.lt
  go_enter Tryz.func14, Tryz.ntmps14
  go_upto_region 1 with fail
  obtain ⟨g, hg⟩ : ∃ q, q = w.heap.size := ⟨_, rfl⟩
  rw [← hg] at k1 hz ⊢
  have HG := Lib.hid hg
  clear hbx hg
  generalize w.alloc (.cells (saidC s) 29) = w1 at *
  have c0 : w1.cell? ⟨g, 0, none⟩ = some (.int .i64 (9)) := (k1.cell 0).trans ((saidC_kind hs).trans (by rw [hk]))
  have hnum := refNumA_any (.slice none 0 0) [] (g + 1) (((9) : Int).toNat) w1 (Own.nil _ _ _) hz (by decide) (by decide)
  go_upto_region 2 with (first
    | (go_at_call 36; refine hnum.mono ?_; clear hnum; rintro e w2 ⟨v0, rfl, hown0, hb2⟩)
    | fail)
  clear c0
  have k2 := k1.below (hb2.mono (Nat.le_refl _)) (Nat.lt_succ_self g)
  have hA0 : BA w1 g s v0 0 [] w2 := ⟨hb2, k2, by rw [hk]; exact hown0, Nat.le_trans hz hb2.size⟩
  have c0 : w2.cell? ⟨g, 0, none⟩ = some (.int .i64 (9)) := (k2.cell 0).trans ((saidC_kind hs).trans (by rw [hk]))
  clear k1 k2 hown0 hb2
  go_upto_region 19 with fail
  refine (wpIn_wide (n := 0)).1 ?_
  refine wpIn_region_cv wide_wide [v0, .pointer (some ⟨g, offN 8, none⟩), .int .i64 (s.n 8), undef, .pointer (some ⟨g, offH 7, none⟩), .agg (hC (s.h 7)), undef] [3, 6] (BA w1 g s v0 0) (fun rs W W' hL h => h.later hL) hA0 (by kernel_rfl) (by kernel_rfl) (by kernel_rfl) (by kernel_rfl) (by kernel_rfl) (by kernel_rfl) rfl (by decide) rfl ⟨?_, ?_, ?_, ?_, ?_, ?_, ?_, trivial⟩ ?_
  · exact cvStep_val rfl (fun ac W rs he hA => stepOk_want rfl (op_move rfl (he.keep (.tmp 3) (by kernel_rfl))))
  · exact cvStep_val rfl (fun ac W rs he hA => stepOk_want rfl (op_fieldAddr rfl (he.keep (.tmp 1) (by kernel_rfl)) (fieldSd 11 297 (by decide)) rfl))
  · exact cvStep_val rfl (fun ac W rs he hA => stepOk_want rfl (op_load rfl (show ac.eval (.tmp 116) = .pointer (some ⟨g, offN 8, none⟩) from he.val 1 116 (by kernel_rfl) rfl rfl) (loadSaidN hs (hA.src) 8 (by decide)) rfl))
  · refine cvStep_put (k := 0) rfl (.inl rfl) (fun ac W rs hlen he hA => ⟨rfl, ?_⟩)
    obtain rfl := List.eq_nil_of_length_eq_zero hlen
    have e0 : ac.eval (.tmp 115) = ([] : List Value).getLastD v0 := he.val 0 115 (by kernel_rfl) rfl rfl
    have e1 : ac.eval (.tmp 117) = .int .i64 (s.n 8) := he.val 2 117 (by kernel_rfl) rfl rfl
    exact op_callFK (vs := #[([] : List Value).getLastD v0, .int .i64 (s.n 8)]) rfl (by simp only [List.map_toArray, List.map_cons, List.map_nil, e0, e1]) (enters_of Tryz.func36 (by kernel_rfl) rfl) ((ba_num hs h512 hok hA 8 2147483647 (by rw [hk]; rfl)).mono fun e W' ⟨v, he', hb⟩ => ⟨v, he', v, rfl, hb⟩)
  · exact cvStep_val rfl (fun ac W rs he hA => stepOk_want rfl (op_fieldAddr rfl (he.keep (.tmp 1) (by kernel_rfl)) (fieldSd 8 232 (by decide)) rfl))
  · exact cvStep_val rfl (fun ac W rs he hA => stepOk_want rfl (op_load rfl (show ac.eval (.tmp 119) = .pointer (some ⟨g, offH 7, none⟩) from he.val 4 119 (by kernel_rfl) rfl rfl) (loadSaidH hs (hA.src) 7 (by decide)) rfl))
  · refine cvStep_put (k := 1) rfl (.inr (by kernel_rfl)) (fun ac W rs hlen he hA => ⟨rfl, ?_⟩)
    have e0 : ac.eval (.tmp 118) = rs.getLastD v0 := (he.res 0 118 (by decide) (by kernel_rfl) rfl).trans (getD_last hlen v0)
    have e1 : ac.eval (.tmp 120) = .agg (hC (s.h 7)) := he.val 5 120 (by kernel_rfl) rfl rfl
    exact op_callFK (vs := #[rs.getLastD v0, .agg (hC (s.h 7))]) rfl (by simp only [List.map_toArray, List.map_cons, List.map_nil, e0, e1]) (enters_of Tryz.func37 (by kernel_rfl) rfl) ((ba_hash hs h512 hA 7 (by decide) (by rw [hlen, hk]; rfl)).mono fun e W' ⟨v, he', hb⟩ => ⟨v, he', v, rfl, hb⟩)
  intro xs W hA hx hk2 hgt
  have hA : BA w1 g s v0 0 [xs 3, xs 6] W := hA
  refine last_assign rfl (hgt 6 121 (by decide) (by kernel_rfl)) ?_
  clear hx hk2 hgt hA0
  simp only [initL, lastL, putL, Nat.reduceAdd, Act.put, List.setIfInBounds_toArray, List.set_cons_succ, List.set_cons_zero]
  go_wp2_with fail
  go_ret
  refine ⟨_, rfl, ?_, ?_⟩
  · have h1 := hA.own.mono (Nat.le_succ g)
    have h2 := HG.out
    subst h2
    unfold body
    rw [show ∀ n, n = (flds s.kind).length → (flds s.kind).take n = flds s.kind from fun n e => by rw [e, List.take_length]] at h1
    · exact h1
    · rw [hk]; rfl
  · have h2 := HG.out
    subst h2
    exact hb.trans (hA.low.mono (Nat.le_succ _))
set_option maxRecDepth 100000 in
set_option maxHeartbeats 4000000 in
theorem rbody10 (s : Said) (hs : s.wf) (hk : s.kind = 10) (h512 : s.route.length ≤ 512) (hok : ∀ f ∈ flds s.kind, layOk s f) (w : World) : Calls Tryz.prog 14 #[.agg (saidC s)] w fun e w' => ∃ v, e = .returned v ∧ Own 5 w' w.heap.size v (body s) ∧ Below w.heap.size w w' := by
  have k1 := Row.new w 29 (saidC s)
  have hb := below_new w (.cells (saidC s) 29)
  have hbx := boxSaid hs w
  have hz : w.heap.size + 1 ≤ (w.alloc (.cells (saidC s) 29)).heap.size := k1.lt
  go_enter Tryz.func14, Tryz.ntmps14
  go_upto_region 1 with fail
  obtain ⟨g, hg⟩ : ∃ q, q = w.heap.size := ⟨_, rfl⟩
  rw [← hg] at k1 hz ⊢
  have HG := Lib.hid hg
  clear hbx hg
  generalize w.alloc (.cells (saidC s) 29) = w1 at *
  have c0 : w1.cell? ⟨g, 0, none⟩ = some (.int .i64 (10)) := (k1.cell 0).trans ((saidC_kind hs).trans (by rw [hk]))
  have hnum := refNumA_any (.slice none 0 0) [] (g + 1) (((10) : Int).toNat) w1 (Own.nil _ _ _) hz (by decide) (by decide)
  go_upto_region 2 with (first
    | (go_at_call 36; refine hnum.mono ?_; clear hnum; rintro e w2 ⟨v0, rfl, hown0, hb2⟩)
    | fail)
  clear c0
  have k2 := k1.below (hb2.mono (Nat.le_refl _)) (Nat.lt_succ_self g)
  have hA0 : BA w1 g s v0 0 [] w2 := ⟨hb2, k2, by rw [hk]; exact hown0, Nat.le_trans hz hb2.size⟩
  have c0 : w2.cell? ⟨g, 0, none⟩ = some (.int .i64 (10)) := (k2.cell 0).trans ((saidC_kind hs).trans (by rw [hk]))
  clear k1 k2 hown0 hb2
  go_upto_region 21 with fail
  refine (wpIn_wide (n := 0)).1 ?_
  refine wpIn_region_cv wide_wide [v0, .pointer (some ⟨g, offN 8, none⟩), .int .i64 (s.n 8), undef, .pointer (some ⟨g, offH 8, none⟩), .agg (hC (s.h 8)), undef, .pointer (some ⟨g, offH 4, none⟩), .agg (hC (s.h 4)), undef] [3, 6, 9] (BA w1 g s v0 0) (fun rs W W' hL h => h.later hL) hA0 (by kernel_rfl) (by kernel_rfl) (by kernel_rfl) (by kernel_rfl) (by kernel_rfl) (by kernel_rfl) rfl (by decide) rfl ⟨?_, ?_, ?_, ?_, ?_, ?_, ?_, ?_, ?_, ?_, trivial⟩ ?_
  · exact cvStep_val rfl (fun ac W rs he hA => stepOk_want rfl (op_move rfl (he.keep (.tmp 3) (by kernel_rfl))))
  · exact cvStep_val rfl (fun ac W rs he hA => stepOk_want rfl (op_fieldAddr rfl (he.keep (.tmp 1) (by kernel_rfl)) (fieldSd 11 297 (by decide)) rfl))
  · exact cvStep_val rfl (fun ac W rs he hA => stepOk_want rfl (op_load rfl (show ac.eval (.tmp 125) = .pointer (some ⟨g, offN 8, none⟩) from he.val 1 125 (by kernel_rfl) rfl rfl) (loadSaidN hs (hA.src) 8 (by decide)) rfl))
  · refine cvStep_put (k := 0) rfl (.inl rfl) (fun ac W rs hlen he hA => ⟨rfl, ?_⟩)
    obtain rfl := List.eq_nil_of_length_eq_zero hlen
    have e0 : ac.eval (.tmp 124) = ([] : List Value).getLastD v0 := he.val 0 124 (by kernel_rfl) rfl rfl
    have e1 : ac.eval (.tmp 126) = .int .i64 (s.n 8) := he.val 2 126 (by kernel_rfl) rfl rfl
    exact op_callFK (vs := #[([] : List Value).getLastD v0, .int .i64 (s.n 8)]) rfl (by simp only [List.map_toArray, List.map_cons, List.map_nil, e0, e1]) (enters_of Tryz.func36 (by kernel_rfl) rfl) ((ba_num hs h512 hok hA 8 2147483647 (by rw [hk]; rfl)).mono fun e W' ⟨v, he', hb⟩ => ⟨v, he', v, rfl, hb⟩)
  · exact cvStep_val rfl (fun ac W rs he hA => stepOk_want rfl (op_fieldAddr rfl (he.keep (.tmp 1) (by kernel_rfl)) (fieldSd 9 264 (by decide)) rfl))
  · exact cvStep_val rfl (fun ac W rs he hA => stepOk_want rfl (op_load rfl (show ac.eval (.tmp 128) = .pointer (some ⟨g, offH 8, none⟩) from he.val 4 128 (by kernel_rfl) rfl rfl) (loadSaidH hs (hA.src) 8 (by decide)) rfl))
  · refine cvStep_put (k := 1) rfl (.inr (by kernel_rfl)) (fun ac W rs hlen he hA => ⟨rfl, ?_⟩)
    have e0 : ac.eval (.tmp 127) = rs.getLastD v0 := (he.res 0 127 (by decide) (by kernel_rfl) rfl).trans (getD_last hlen v0)
    have e1 : ac.eval (.tmp 129) = .agg (hC (s.h 8)) := he.val 5 129 (by kernel_rfl) rfl rfl
    exact op_callFK (vs := #[rs.getLastD v0, .agg (hC (s.h 8))]) rfl (by simp only [List.map_toArray, List.map_cons, List.map_nil, e0, e1]) (enters_of Tryz.func37 (by kernel_rfl) rfl) ((ba_hash hs h512 hA 8 (by decide) (by rw [hlen, hk]; rfl)).mono fun e W' ⟨v, he', hb⟩ => ⟨v, he', v, rfl, hb⟩)
  · exact cvStep_val rfl (fun ac W rs he hA => stepOk_want rfl (op_fieldAddr rfl (he.keep (.tmp 1) (by kernel_rfl)) (fieldSd 5 136 (by decide)) rfl))
  · exact cvStep_val rfl (fun ac W rs he hA => stepOk_want rfl (op_load rfl (show ac.eval (.tmp 131) = .pointer (some ⟨g, offH 4, none⟩) from he.val 7 131 (by kernel_rfl) rfl rfl) (loadSaidH hs (hA.src) 4 (by decide)) rfl))
  · refine cvStep_put (k := 2) rfl (.inr (by kernel_rfl)) (fun ac W rs hlen he hA => ⟨rfl, ?_⟩)
    have e0 : ac.eval (.tmp 130) = rs.getLastD v0 := (he.res 1 130 (by decide) (by kernel_rfl) rfl).trans (getD_last hlen v0)
    have e1 : ac.eval (.tmp 132) = .agg (hC (s.h 4)) := he.val 8 132 (by kernel_rfl) rfl rfl
    exact op_callFK (vs := #[rs.getLastD v0, .agg (hC (s.h 4))]) rfl (by simp only [List.map_toArray, List.map_cons, List.map_nil, e0, e1]) (enters_of Tryz.func37 (by kernel_rfl) rfl) ((ba_hash hs h512 hA 4 (by decide) (by rw [hlen, hk]; rfl)).mono fun e W' ⟨v, he', hb⟩ => ⟨v, he', v, rfl, hb⟩)
  intro xs W hA hx hk2 hgt
  have hA : BA w1 g s v0 0 [xs 3, xs 6, xs 9] W := hA
  refine last_assign rfl (hgt 9 133 (by decide) (by kernel_rfl)) ?_
  clear hx hk2 hgt hA0
  simp only [initL, lastL, putL, Nat.reduceAdd, Act.put, List.setIfInBounds_toArray, List.set_cons_succ, List.set_cons_zero]
  go_wp2_with fail
  go_ret
  refine ⟨_, rfl, ?_, ?_⟩
  · have h1 := hA.own.mono (Nat.le_succ g)
    have h2 := HG.out
    subst h2
    unfold body
    rw [show ∀ n, n = (flds s.kind).length → (flds s.kind).take n = flds s.kind from fun n e => by rw [e, List.take_length]] at h1
    · exact h1
    · rw [hk]; rfl
  · have h2 := HG.out
    subst h2
    exact hb.trans (hA.low.mono (Nat.le_succ _))
set_option maxRecDepth 100000 in
set_option maxHeartbeats 4000000 in
theorem rbody11 (s : Said) (hs : s.wf) (hk : s.kind = 11) (h512 : s.route.length ≤ 512) (hok : ∀ f ∈ flds s.kind, layOk s f) (w : World) : Calls Tryz.prog 14 #[.agg (saidC s)] w fun e w' => ∃ v, e = .returned v ∧ Own 5 w' w.heap.size v (body s) ∧ Below w.heap.size w w' := by
  have k1 := Row.new w 29 (saidC s)
  have hb := below_new w (.cells (saidC s) 29)
  have hbx := boxSaid hs w
  have hz : w.heap.size + 1 ≤ (w.alloc (.cells (saidC s) 29)).heap.size := k1.lt
  go_enter Tryz.func14, Tryz.ntmps14
  go_upto_region 1 with fail
  obtain ⟨g, hg⟩ : ∃ q, q = w.heap.size := ⟨_, rfl⟩
  rw [← hg] at k1 hz ⊢
  have HG := Lib.hid hg
  clear hbx hg
  generalize w.alloc (.cells (saidC s) 29) = w1 at *
  have c0 : w1.cell? ⟨g, 0, none⟩ = some (.int .i64 (11)) := (k1.cell 0).trans ((saidC_kind hs).trans (by rw [hk]))
  have hnum := refNumA_any (.slice none 0 0) [] (g + 1) (((11) : Int).toNat) w1 (Own.nil _ _ _) hz (by decide) (by decide)
  go_upto_region 2 with (first
    | (go_at_call 36; refine hnum.mono ?_; clear hnum; rintro e w2 ⟨v0, rfl, hown0, hb2⟩)
    | fail)
  clear c0
  have k2 := k1.below (hb2.mono (Nat.le_refl _)) (Nat.lt_succ_self g)
  have hA0 : BA w1 g s v0 0 [] w2 := ⟨hb2, k2, by rw [hk]; exact hown0, Nat.le_trans hz hb2.size⟩
  have c0 : w2.cell? ⟨g, 0, none⟩ = some (.int .i64 (11)) := (k2.cell 0).trans ((saidC_kind hs).trans (by rw [hk]))
  clear k1 k2 hown0 hb2
  go_upto_region 23 with fail
  refine (wpIn_wide (n := 0)).1 ?_
  refine wpIn_region_cv wide_wide [v0, .pointer (some ⟨g, offN 8, none⟩), .int .i64 (s.n 8), undef, .pointer (some ⟨g, offN 7, none⟩), .int .i64 (s.n 7), undef] [3, 6] (BA w1 g s v0 0) (fun rs W W' hL h => h.later hL) hA0 (by kernel_rfl) (by kernel_rfl) (by kernel_rfl) (by kernel_rfl) (by kernel_rfl) (by kernel_rfl) rfl (by decide) rfl ⟨?_, ?_, ?_, ?_, ?_, ?_, ?_, trivial⟩ ?_
  · exact cvStep_val rfl (fun ac W rs he hA => stepOk_want rfl (op_move rfl (he.keep (.tmp 3) (by kernel_rfl))))
  · exact cvStep_val rfl (fun ac W rs he hA => stepOk_want rfl (op_fieldAddr rfl (he.keep (.tmp 1) (by kernel_rfl)) (fieldSd 11 297 (by decide)) rfl))
  · exact cvStep_val rfl (fun ac W rs he hA => stepOk_want rfl (op_load rfl (show ac.eval (.tmp 137) = .pointer (some ⟨g, offN 8, none⟩) from he.val 1 137 (by kernel_rfl) rfl rfl) (loadSaidN hs (hA.src) 8 (by decide)) rfl))
  · refine cvStep_put (k := 0) rfl (.inl rfl) (fun ac W rs hlen he hA => ⟨rfl, ?_⟩)
    obtain rfl := List.eq_nil_of_length_eq_zero hlen
    have e0 : ac.eval (.tmp 136) = ([] : List Value).getLastD v0 := he.val 0 136 (by kernel_rfl) rfl rfl
    have e1 : ac.eval (.tmp 138) = .int .i64 (s.n 8) := he.val 2 138 (by kernel_rfl) rfl rfl
    exact op_callFK (vs := #[([] : List Value).getLastD v0, .int .i64 (s.n 8)]) rfl (by simp only [List.map_toArray, List.map_cons, List.map_nil, e0, e1]) (enters_of Tryz.func36 (by kernel_rfl) rfl) ((ba_num hs h512 hok hA 8 2147483647 (by rw [hk]; rfl)).mono fun e W' ⟨v, he', hb⟩ => ⟨v, he', v, rfl, hb⟩)
  · exact cvStep_val rfl (fun ac W rs he hA => stepOk_want rfl (op_fieldAddr rfl (he.keep (.tmp 1) (by kernel_rfl)) (fieldSd 10 296 (by decide)) rfl))
  · exact cvStep_val rfl (fun ac W rs he hA => stepOk_want rfl (op_load rfl (show ac.eval (.tmp 140) = .pointer (some ⟨g, offN 7, none⟩) from he.val 4 140 (by kernel_rfl) rfl rfl) (loadSaidN hs (hA.src) 7 (by decide)) rfl))
  · refine cvStep_put (k := 1) rfl (.inr (by kernel_rfl)) (fun ac W rs hlen he hA => ⟨rfl, ?_⟩)
    have e0 : ac.eval (.tmp 139) = rs.getLastD v0 := (he.res 0 139 (by decide) (by kernel_rfl) rfl).trans (getD_last hlen v0)
    have e1 : ac.eval (.tmp 141) = .int .i64 (s.n 7) := he.val 5 141 (by kernel_rfl) rfl rfl
    exact op_callFK (vs := #[rs.getLastD v0, .int .i64 (s.n 7)]) rfl (by simp only [List.map_toArray, List.map_cons, List.map_nil, e0, e1]) (enters_of Tryz.func36 (by kernel_rfl) rfl) ((ba_num hs h512 hok hA 7 2147483647 (by rw [hlen, hk]; rfl)).mono fun e W' ⟨v, he', hb⟩ => ⟨v, he', v, rfl, hb⟩)
  intro xs W hA hx hk2 hgt
  have hA : BA w1 g s v0 0 [xs 3, xs 6] W := hA
  refine last_assign rfl (hgt 6 142 (by decide) (by kernel_rfl)) ?_
  clear hx hk2 hgt hA0
  simp only [initL, lastL, putL, Nat.reduceAdd, Act.put, List.setIfInBounds_toArray, List.set_cons_succ, List.set_cons_zero]
  go_wp2_with fail
  go_ret
  refine ⟨_, rfl, ?_, ?_⟩
  · have h1 := hA.own.mono (Nat.le_succ g)
    have h2 := HG.out
    subst h2
    unfold body
    rw [show ∀ n, n = (flds s.kind).length → (flds s.kind).take n = flds s.kind from fun n e => by rw [e, List.take_length]] at h1
    · exact h1
    · rw [hk]; rfl
  · have h2 := HG.out
    subst h2
    exact hb.trans (hA.low.mono (Nat.le_succ _))
set_option maxRecDepth 100000 in
set_option maxHeartbeats 4000000 in
theorem rbody12 (s : Said) (hs : s.wf) (hk : s.kind = 12) (h512 : s.route.length ≤ 512) (hok : ∀ f ∈ flds s.kind, layOk s f) (w : World) : Calls Tryz.prog 14 #[.agg (saidC s)] w fun e w' => ∃ v, e = .returned v ∧ Own 5 w' w.heap.size v (body s) ∧ Below w.heap.size w w' := by
  have k1 := Row.new w 29 (saidC s)
  have hb := below_new w (.cells (saidC s) 29)
  have hbx := boxSaid hs w
  have hz : w.heap.size + 1 ≤ (w.alloc (.cells (saidC s) 29)).heap.size := k1.lt
  go_enter Tryz.func14, Tryz.ntmps14
  go_upto_region 1 with fail
  obtain ⟨g, hg⟩ : ∃ q, q = w.heap.size := ⟨_, rfl⟩
  rw [← hg] at k1 hz ⊢
  have HG := Lib.hid hg
  clear hbx hg
  generalize w.alloc (.cells (saidC s) 29) = w1 at *
  have c0 : w1.cell? ⟨g, 0, none⟩ = some (.int .i64 (12)) := (k1.cell 0).trans ((saidC_kind hs).trans (by rw [hk]))
  have hnum := refNumA_any (.slice none 0 0) [] (g + 1) (((12) : Int).toNat) w1 (Own.nil _ _ _) hz (by decide) (by decide)
  go_upto_region 2 with (first
    | (go_at_call 36; refine hnum.mono ?_; clear hnum; rintro e w2 ⟨v0, rfl, hown0, hb2⟩)
    | fail)
  clear c0
  have k2 := k1.below (hb2.mono (Nat.le_refl _)) (Nat.lt_succ_self g)
  have hA0 : BA w1 g s v0 0 [] w2 := ⟨hb2, k2, by rw [hk]; exact hown0, Nat.le_trans hz hb2.size⟩
  have c0 : w2.cell? ⟨g, 0, none⟩ = some (.int .i64 (12)) := (k2.cell 0).trans ((saidC_kind hs).trans (by rw [hk]))
  clear k1 k2 hown0 hb2
  have hA := hA0
  clear hA0
  go_wp2_with fail
  go_ret
  refine ⟨_, rfl, ?_, ?_⟩
  · have h1 := hA.own.mono (Nat.le_succ g)
    have h2 := HG.out
    subst h2
    unfold body
    rw [show ∀ n, n = (flds s.kind).length → (flds s.kind).take n = flds s.kind from fun n e => by rw [e, List.take_length]] at h1
    · exact h1
    · rw [hk]; rfl
  · have h2 := HG.out
    subst h2
    exact hb.trans (hA.low.mono (Nat.le_succ _))
set_option maxRecDepth 100000 in
set_option maxHeartbeats 4000000 in
theorem rbody13 (s : Said) (hs : s.wf) (hk : s.kind = 13) (h512 : s.route.length ≤ 512) (hok : ∀ f ∈ flds s.kind, layOk s f) (w : World) : Calls Tryz.prog 14 #[.agg (saidC s)] w fun e w' => ∃ v, e = .returned v ∧ Own 5 w' w.heap.size v (body s) ∧ Below w.heap.size w w' := by
  have k1 := Row.new w 29 (saidC s)
  have hb := below_new w (.cells (saidC s) 29)
  have hbx := boxSaid hs w
  have hz : w.heap.size + 1 ≤ (w.alloc (.cells (saidC s) 29)).heap.size := k1.lt
  go_enter Tryz.func14, Tryz.ntmps14
  go_upto_region 1 with fail
  obtain ⟨g, hg⟩ : ∃ q, q = w.heap.size := ⟨_, rfl⟩
  rw [← hg] at k1 hz ⊢
  have HG := Lib.hid hg
  clear hbx hg
  generalize w.alloc (.cells (saidC s) 29) = w1 at *
  have c0 : w1.cell? ⟨g, 0, none⟩ = some (.int .i64 (13)) := (k1.cell 0).trans ((saidC_kind hs).trans (by rw [hk]))
  have hnum := refNumA_any (.slice none 0 0) [] (g + 1) (((13) : Int).toNat) w1 (Own.nil _ _ _) hz (by decide) (by decide)
  go_upto_region 2 with (first
    | (go_at_call 36; refine hnum.mono ?_; clear hnum; rintro e w2 ⟨v0, rfl, hown0, hb2⟩)
    | fail)
  clear c0
  have k2 := k1.below (hb2.mono (Nat.le_refl _)) (Nat.lt_succ_self g)
  have hA0 : BA w1 g s v0 0 [] w2 := ⟨hb2, k2, by rw [hk]; exact hown0, Nat.le_trans hz hb2.size⟩
  have c0 : w2.cell? ⟨g, 0, none⟩ = some (.int .i64 (13)) := (k2.cell 0).trans ((saidC_kind hs).trans (by rw [hk]))
  clear k1 k2 hown0 hb2
  go_upto_region 25 with fail
  refine (wpIn_wide (n := 0)).1 ?_
  refine wpIn_region_cv wide_wide [v0, .pointer (some ⟨g, offN 6, none⟩), .int .i64 (s.n 6), undef, .pointer (some ⟨g, offH 7, none⟩), .agg (hC (s.h 7)), undef] [3, 6] (BA w1 g s v0 0) (fun rs W W' hL h => h.later hL) hA0 (by kernel_rfl) (by kernel_rfl) (by kernel_rfl) (by kernel_rfl) (by kernel_rfl) (by kernel_rfl) rfl (by decide) rfl ⟨?_, ?_, ?_, ?_, ?_, ?_, ?_, trivial⟩ ?_
  · exact cvStep_val rfl (fun ac W rs he hA => stepOk_want rfl (op_move rfl (he.keep (.tmp 3) (by kernel_rfl))))
  · exact cvStep_val rfl (fun ac W rs he hA => stepOk_want rfl (op_fieldAddr rfl (he.keep (.tmp 1) (by kernel_rfl)) (fieldSd 3 103 (by decide)) rfl))
  · exact cvStep_val rfl (fun ac W rs he hA => stepOk_want rfl (op_load rfl (show ac.eval (.tmp 146) = .pointer (some ⟨g, offN 6, none⟩) from he.val 1 146 (by kernel_rfl) rfl rfl) (loadSaidN hs (hA.src) 6 (by decide)) rfl))
  · refine cvStep_put (k := 0) rfl (.inl rfl) (fun ac W rs hlen he hA => ⟨rfl, ?_⟩)
    obtain rfl := List.eq_nil_of_length_eq_zero hlen
    have e0 : ac.eval (.tmp 145) = ([] : List Value).getLastD v0 := he.val 0 145 (by kernel_rfl) rfl rfl
    have e1 : ac.eval (.tmp 147) = .int .i64 (s.n 6) := he.val 2 147 (by kernel_rfl) rfl rfl
    exact op_callFK (vs := #[([] : List Value).getLastD v0, .int .i64 (s.n 6)]) rfl (by simp only [List.map_toArray, List.map_cons, List.map_nil, e0, e1]) (enters_of Tryz.func36 (by kernel_rfl) rfl) ((ba_num hs h512 hok hA 6 1125899906842624 (by rw [hk]; rfl)).mono fun e W' ⟨v, he', hb⟩ => ⟨v, he', v, rfl, hb⟩)
  · exact cvStep_val rfl (fun ac W rs he hA => stepOk_want rfl (op_fieldAddr rfl (he.keep (.tmp 1) (by kernel_rfl)) (fieldSd 8 232 (by decide)) rfl))
  · exact cvStep_val rfl (fun ac W rs he hA => stepOk_want rfl (op_load rfl (show ac.eval (.tmp 149) = .pointer (some ⟨g, offH 7, none⟩) from he.val 4 149 (by kernel_rfl) rfl rfl) (loadSaidH hs (hA.src) 7 (by decide)) rfl))
  · refine cvStep_put (k := 1) rfl (.inr (by kernel_rfl)) (fun ac W rs hlen he hA => ⟨rfl, ?_⟩)
    have e0 : ac.eval (.tmp 148) = rs.getLastD v0 := (he.res 0 148 (by decide) (by kernel_rfl) rfl).trans (getD_last hlen v0)
    have e1 : ac.eval (.tmp 150) = .agg (hC (s.h 7)) := he.val 5 150 (by kernel_rfl) rfl rfl
    exact op_callFK (vs := #[rs.getLastD v0, .agg (hC (s.h 7))]) rfl (by simp only [List.map_toArray, List.map_cons, List.map_nil, e0, e1]) (enters_of Tryz.func37 (by kernel_rfl) rfl) ((ba_hash hs h512 hA 7 (by decide) (by rw [hlen, hk]; rfl)).mono fun e W' ⟨v, he', hb⟩ => ⟨v, he', v, rfl, hb⟩)
  intro xs W hA hx hk2 hgt
  have hA : BA w1 g s v0 0 [xs 3, xs 6] W := hA
  refine last_assign rfl (hgt 6 151 (by decide) (by kernel_rfl)) ?_
  clear hx hk2 hgt hA0
  simp only [initL, lastL, putL, Nat.reduceAdd, Act.put, List.setIfInBounds_toArray, List.set_cons_succ, List.set_cons_zero]
  go_wp2_with fail
  go_ret
  refine ⟨_, rfl, ?_, ?_⟩
  · have h1 := hA.own.mono (Nat.le_succ g)
    have h2 := HG.out
    subst h2
    unfold body
    rw [show ∀ n, n = (flds s.kind).length → (flds s.kind).take n = flds s.kind from fun n e => by rw [e, List.take_length]] at h1
    · exact h1
    · rw [hk]; rfl
  · have h2 := HG.out
    subst h2
    exact hb.trans (hA.low.mono (Nat.le_succ _))
set_option maxRecDepth 100000 in
set_option maxHeartbeats 4000000 in
theorem rbody14 (s : Said) (hs : s.wf) (hk : s.kind = 14) (h512 : s.route.length ≤ 512) (hok : ∀ f ∈ flds s.kind, layOk s f) (w : World) : Calls Tryz.prog 14 #[.agg (saidC s)] w fun e w' => ∃ v, e = .returned v ∧ Own 5 w' w.heap.size v (body s) ∧ Below w.heap.size w w' := by
  have k1 := Row.new w 29 (saidC s)
  have hb := below_new w (.cells (saidC s) 29)
  have hbx := boxSaid hs w
  have hz : w.heap.size + 1 ≤ (w.alloc (.cells (saidC s) 29)).heap.size := k1.lt
  go_enter Tryz.func14, Tryz.ntmps14
  go_upto_region 1 with fail
  obtain ⟨g, hg⟩ : ∃ q, q = w.heap.size := ⟨_, rfl⟩
  rw [← hg] at k1 hz ⊢
  have HG := Lib.hid hg
  clear hbx hg
  generalize w.alloc (.cells (saidC s) 29) = w1 at *
  have c0 : w1.cell? ⟨g, 0, none⟩ = some (.int .i64 (14)) := (k1.cell 0).trans ((saidC_kind hs).trans (by rw [hk]))
  have hnum := refNumA_any (.slice none 0 0) [] (g + 1) (((14) : Int).toNat) w1 (Own.nil _ _ _) hz (by decide) (by decide)
  go_upto_region 2 with (first
    | (go_at_call 36; refine hnum.mono ?_; clear hnum; rintro e w2 ⟨v0, rfl, hown0, hb2⟩)
    | fail)
  clear c0
  have k2 := k1.below (hb2.mono (Nat.le_refl _)) (Nat.lt_succ_self g)
  have hA0 : BA w1 g s v0 0 [] w2 := ⟨hb2, k2, by rw [hk]; exact hown0, Nat.le_trans hz hb2.size⟩
  have c0 : w2.cell? ⟨g, 0, none⟩ = some (.int .i64 (14)) := (k2.cell 0).trans ((saidC_kind hs).trans (by rw [hk]))
  clear k1 k2 hown0 hb2
  go_upto_region 27 with fail
  have hld := loadSaidN hs hA0.src 11 (by decide)
  have hc := ba_num hs h512 hok hA0 11 2147483647 (by rw [hk]; rfl)
  clear hA0
  go_wp2_with (first
    | (guard_target =~ wpList _ _ _ (_ :: _) _ _; refine wpList_load rfl 2 (.tmp 155) rfl (.pointer (some ⟨g, offN 11, none⟩)) rfl hld ?_)
    | (go_at_call 36; refine hc.mono ?_; clear hc; rintro e W ⟨v9, rfl, hA⟩)
    | fail)
  have hA : BA w1 g s v0 0 [v9] W := hA
  go_ret
  refine ⟨_, rfl, ?_, ?_⟩
  · have h1 := hA.own.mono (Nat.le_succ g)
    have h2 := HG.out
    subst h2
    unfold body
    rw [show ∀ n, n = (flds s.kind).length → (flds s.kind).take n = flds s.kind from fun n e => by rw [e, List.take_length]] at h1
    · exact h1
    · rw [hk]; rfl
  · have h2 := HG.out
    subst h2
    exact hb.trans (hA.low.mono (Nat.le_succ _))
theorem refBody_any (s : Said) (hs : s.wf) (hr : Ms.right s = true) (h512 : s.route.length ≤ 512) (w : World) : Calls Tryz.prog 14 #[.agg (saidC s)] w fun e w' => ∃ v, e = .returned v ∧ Own 5 w' w.heap.size v (body s) ∧ Below w.heap.size w w' := by
  have hk := (right_facts hr).1
  have hok := right_lay hr
  have hK : s.kind = 1 ∨ s.kind = 2 ∨ s.kind = 3 ∨ s.kind = 4 ∨ s.kind = 5 ∨ s.kind = 6 ∨ s.kind = 7 ∨ s.kind = 8 ∨ s.kind = 9 ∨ s.kind = 10 ∨ s.kind = 11 ∨ s.kind = 12 ∨ s.kind = 13 ∨ s.kind = 14 := by omega
  rcases hK with h | h | h | h | h | h | h | h | h | h | h | h | h | h
  · exact rbody1 s hs h h512 hok w
  · exact rbody2 s hs h h512 hok w
  · exact rbody3 s hs h h512 hok w
  · exact rbody4 s hs h h512 hok w
  · exact rbody5 s hs h h512 hok w
  · exact rbody6 s hs h h512 hok w
  · exact rbody7 s hs h h512 hok w
  · exact rbody8 s hs h h512 hok w
  · exact rbody9 s hs h h512 hok w
  · exact rbody10 s hs h h512 hok w
  · exact rbody11 s hs h h512 hok w
  · exact rbody12 s hs h h512 hok w
  · exact rbody13 s hs h h512 hok w
  · exact rbody14 s hs h h512 hok w
end Go.Proofs.YtcajhdmppfiaeaaGreat
namespace Go.Proofs.YtcajhdmppfiaeaaGreat
open Go.ChangeShapes Go.WideShapes Go.ChangeAt Go.RowKit Ms
section
variable {P : Program} {w : World} {r : Reach} {b : Nat} {t : TypeId} {v : Value}
theorem cellW_int {k : IntKind} (ht : P.underlying t = some (.int k)) (h : Cell.okWide P w r b t v) : ∃ n, v = .int k n ∧ k.has n := by
  unfold Cell.okWide Cell.ok at h
  rw [ht] at h
  cases v <;> simp_all
theorem cellW_str (ht : P.underlying t = some .string) (h : Cell.okWide P w r b t v) : ∃ s, v = .string s ∧ (s.size : Int) ≤ 9223372036854775807 := by
  unfold Cell.okWide Cell.ok at h
  rw [ht] at h
  cases v <;> simp_all
end
def saidT : List TypeId := [22] ++ List.replicate 32 5 ++ List.replicate 5 2 ++ List.replicate 64 5 ++ List.replicate 2 2 ++ List.replicate 192 5 ++ List.replicate 5 2 ++ [9]
theorem saidT_eq : Tryz.prog.cellTypes Tryz.prog.depth 29 = some saidT := by kernel_rfl
theorem said_where : ∀ i, i < 302 → i = 0 ∨ (∃ j, j < 9 ∧ offH j ≤ i ∧ i < offH j + 32) ∨ (∃ j, j < 12 ∧ i = offN j) ∨ i = 301 := by decide +kernel
theorem saidT_h : ∀ j, j < 9 → ∀ i, i < 32 → saidT[offH j + i]? = some 5 := by decide +kernel
theorem saidT_n : ∀ j, j < 12 → saidT[offN j]? = some 2 := by decide +kernel
def sIntV : Value → Int
  | .int _ z => z
  | _ => 0
def sStrV : Value → List UInt8
  | .string s => s.data.toList
  | _ => []
def sByV : Value → UInt8
  | .int _ z => UInt8.ofNat z.toNat
  | _ => 0
def saidOf (cs : Array Value) : Said :=
  let h := fun j => (List.range 32).map fun i => sByV (cs.getD (offH j + i) undef)
  let n := fun j => sIntV (cs.getD (offN j) undef)
  { kind := sIntV (cs.getD 0 undef), fund := h 0, tix := n 0, cap := n 1, dust := n 2, fee := n 3, delay := n 4, key0 := h 1, key1 := h 2, reserve := n 5, amount := n 6, point := h 3, next := h 4, key := h 5, hash := h 6, tag := h 7, secret := h 8, id := n 7, number := n 8, index := n 9, expiry := n 10, code := n 11, route := sStrV (cs.getD 301 undef) }
theorem saidOf_h (cs : Array Value) (j : Nat) (hj : j < 9) : (saidOf cs).h j = (List.range 32).map fun i => sByV (cs.getD (offH j + i) undef) := by
  rcases j with _ | _ | _ | _ | _ | _ | _ | _ | _ | j
  all_goals first | rfl | omega
theorem saidOf_n (cs : Array Value) (j : Nat) (hj : j < 12) : (saidOf cs).n j = sIntV (cs.getD (offN j) undef) := by
  rcases j with _ | _ | _ | _ | _ | _ | _ | _ | _ | _ | _ | _ | j
  all_goals first | rfl | omega
theorem saidOf_wf (cs : Array Value) : (saidOf cs).wf := fun j hj => by
  rw [saidOf_h cs j hj, List.length_map, List.length_range]
set_option maxRecDepth 100000 in
theorem open_said {w : World} {r : Reach} {b : Nat} {v : Value} (hv : Value.okWide Tryz.prog w r b 29 v) : ∃ s : Said, s.wf ∧ s.route.length ≤ 9223372036854775807 ∧ v = .agg (saidC s) := by
  unfold Value.okWide at hv
  obtain ⟨d, hd, hv⟩ : ∃ d, Tryz.prog.underlying 29 = some (.struct d) ∧ ∃ cs, v = .agg cs ∧ cs.size = Tryz.prog.cellsOf 29 ∧ Row.okWide Tryz.prog w r b 29 cs := by
    rw [Tryz.underlying29] at hv ⊢
    exact ⟨_, rfl, hv⟩
  obtain ⟨cs, rfl, hsz, ts, hts, _, hc⟩ := hv
  rw [saidT_eq] at hts
  injection hts with hts
  subst hts
  rw [show Tryz.prog.cellsOf 29 = 302 by kernel_rfl] at hsz
  have hlen : saidT.length = 302 := by decide +kernel
  have hcell : ∀ i u, i < 302 → saidT[i]? = some u → ∃ v, cs[i]? = some v ∧ cs.getD i undef = v ∧ Cell.okWide Tryz.prog w r b u v := fun i u hi hu => by
    obtain ⟨u', h1, h2⟩ := hc i cs[i] (Array.getElem?_eq_getElem (by omega))
    rw [hlen, Nat.mod_eq_of_lt hi, hu] at h1
    injection h1 with h1
    subst h1
    exact ⟨_, Array.getElem?_eq_getElem (by omega), by simp [Array.getD, hsz, hi], h2⟩
  have hw := saidOf_wf cs
  obtain ⟨vs, h1, h2, h3⟩ := hcell 301 _ (by decide) (show saidT[301]? = some 9 by decide +kernel)
  obtain ⟨st, rfl, hst⟩ := cellW_str Tryz.underlying9 h3
  have hroute : (saidOf cs).route = st.data.toList := by
    show sStrV (cs.getD 301 undef) = _
    rw [h2]
    rfl
  refine ⟨saidOf cs, hw, by rw [hroute, Array.length_toList]; have e : st.data.size = st.size := rfl; omega, ?_⟩
  congr 1
  apply Array.ext_getElem?
  intro i
  by_cases hi : i < 302
  · rcases said_where i hi with rfl | ⟨j, hj, hj1, hj2⟩ | ⟨j, hj, rfl⟩ | rfl
    · rw [saidC_kind hw]
      obtain ⟨v, g1, g2, g3⟩ := hcell 0 _ (by decide) (show saidT[0]? = some 22 by decide +kernel)
      obtain ⟨n, rfl, _⟩ := cellW_int Tryz.underlying22 g3
      rw [g1]
      show _ = some (Value.int .i64 (sIntV (cs.getD 0 undef)))
      rw [g2]
      rfl
    · obtain ⟨k, rfl⟩ : ∃ k, i = offH j + k := ⟨i - offH j, by omega⟩
      rw [saidC_h hw j hj k (by omega), saidOf_h cs j hj, hC_full _ (by simp)]
      obtain ⟨v, g1, g2, g3⟩ := hcell (offH j + k) _ hi (saidT_h j hj k (by omega))
      obtain ⟨n, rfl, hn⟩ := cellW_int Tryz.underlying5 g3
      rw [g1, List.map_map, List.getElem?_toArray, List.getElem?_map, List.getElem?_range (by omega)]
      show _ = some (byteV (sByV (cs.getD (offH j + k) undef)))
      rw [g2]
      have hb : 0 ≤ n ∧ n ≤ 255 := by
        simp [IntKind.has, IntKind.min, IntKind.max, IntKind.signed, IntKind.bits] at hn
        omega
      unfold byteV sByV
      rw [UInt8.toNat_ofNat']
      congr 2
      omega
    · rw [saidC_n hw j hj, saidOf_n cs j hj]
      obtain ⟨v, g1, g2, g3⟩ := hcell (offN j) _ hi (saidT_n j hj)
      obtain ⟨n, rfl, _⟩ := cellW_int Tryz.underlying2 g3
      rw [g1, g2]
      rfl
    · rw [saidC_route hw, h1, hroute]
  · rw [Array.getElem?_eq_none (by omega), Array.getElem?_eq_none (by rw [saidC_size hw]; omega)]
end Go.Proofs.YtcajhdmppfiaeaaGreat
namespace Go.Proofs.YtcajhdmppfiaeaaGreat
open Go.RowKit Ms
theorem few_any (s : Said) (hs : s.wf) (hm : s.route.length ≤ 9223372036854775807) (w : World) : Calls Tryz.prog 8 #[.agg (saidC s)] w fun e w' => e = .returned (.bool (decide (s.route.length ≤ 600))) ∧ Later w w' := by
  have k1 := Row.new w 29 (saidC s)
  have hb := below_new w (.cells (saidC s) 29)
  have hbx := boxSaid hs w
  obtain ⟨b, h3⟩ : ∃ b, decide (s.route.length ≤ 600) = b := ⟨_, rfl⟩
  have h3' : decide ((s.route.length : Int) ≤ 600) = b := by rw [← h3]; exact decide_eq_decide.2 (by omega)
  rw [h3]
  clear h3
  go_enter Tryz.func8, Tryz.ntmps8
  go_upto_region 1 with fail
  obtain ⟨g, hg⟩ : ∃ q, q = w.heap.size := ⟨_, rfl⟩
  rw [← hg] at k1 ⊢
  clear hbx hg
  generalize w.alloc (.cells (saidC s) 29) = w1 at *
  have c1 : w1.cell? ⟨g, 301, none⟩ = some (.string ⟨s.route.toArray⟩) := (k1.cell _).trans (saidC_route hs)
  have hsz : (⟨s.route.toArray⟩ : ByteArray).size = s.route.length := by simp [ByteArray.size]
  go_wp2_with fail
  go_ret
  exact ⟨rfl, hb⟩
end Go.Proofs.YtcajhdmppfiaeaaGreat
