/- Walks, route: small functions. -/
import Derived.Test.YtloiaaolnfimgaaGreatRtH
import Derived.Test.YtloiaaolnfimgaaGreatRc4
import Derived.Recover
import Derived.Defers
import Derived.Stop.Joined
set_option linter.unusedVariables false
set_option linter.unusedSimpArgs false
namespace Go.Proofs.YtloiaaolnfimgaaGreat
open Go.RowKit Rt
theorem rin_int (n a b : Int) (w : World) : Calls Tryz.prog 24 #[.int .i64 n, .int .i64 a, .int .i64 b] w fun e w' => e = .returned (.bool (decide (a ≤ n) && decide (n ≤ b))) ∧ w' = w := by
  by_cases h : a ≤ n
  · have e1 : decide (a ≤ n) = true := decide_eq_true h
    rw [e1, Bool.true_and]
    go_enter Tryz.func24, Tryz.ntmps24
    go_wp2
    go_ret
    exact ⟨rfl, rfl⟩
  · have e1 : decide (a ≤ n) = false := decide_eq_false h
    rw [e1, Bool.false_and]
    go_enter Tryz.func24, Tryz.ntmps24
    go_wp2
    go_ret
    exact ⟨rfl, rfl⟩
theorem rin_i64 (n a b : Int) (w : World) : Calls Tryz.prog 46 #[.int .i64 n, .int .i64 a, .int .i64 b] w fun e w' => e = .returned (.bool (decide (a ≤ n) && decide (n ≤ b))) ∧ w' = w := by
  by_cases h : a ≤ n
  · have e1 : decide (a ≤ n) = true := decide_eq_true h
    rw [e1, Bool.true_and]
    go_enter Tryz.func46, Tryz.ntmps46
    go_wp2
    go_ret
    exact ⟨rfl, rfl⟩
  · have e1 : decide (a ≤ n) = false := decide_eq_false h
    rw [e1, Bool.false_and]
    go_enter Tryz.func46, Tryz.ntmps46
    go_wp2
    go_ret
    exact ⟨rfl, rfl⟩
theorem rpaid_any (a x : Int) (w : World) : Calls Tryz.prog 22 #[.int .i64 a, .int .i64 x] w fun e w' => e = .returned (.bool (paid a x)) ∧ w' = w := by
  have h1 := fun W => rin_i64 a 1 1125899906842624 W
  have h2 := fun W => rin_i64 x 1 2147483647 W
  unfold paid
  generalize (decide (1 ≤ a) && decide (a ≤ 1125899906842624)) = b1 at *
  generalize (decide (1 ≤ x) && decide (x ≤ 2147483647)) = b2 at *
  cases b1
  · rw [Bool.false_and]
    go_enter Tryz.func22, Tryz.ntmps22
    go_wp2_with (first
      | (go_at_call 46; refine (h1 _).mono ?_; rintro e w1 ⟨rfl, rfl⟩)
      | fail)
    go_ret
    exact ⟨rfl, rfl⟩
  · rw [Bool.true_and]
    go_enter Tryz.func22, Tryz.ntmps22
    go_wp2_with (first
      | (go_at_call 46; (first | (refine (h1 _).mono ?_; clear h1; rintro e w1 ⟨rfl, rfl⟩) | (refine (h2 _).mono ?_; rintro e w1 ⟨rfl, rfl⟩)))
      | fail)
    go_ret
    exact ⟨rfl, rfl⟩
theorem rnum_any (n : Int) (w : World) : Calls Tryz.prog 11 #[.int .i64 n] w fun e w' => e = .returned (.int .i64 n) ∧ w' = w := by
  go_enter Tryz.func11, Tryz.ntmps11
  go_wp2
  go_ret
  exact ⟨rfl, rfl⟩
theorem rmust_ok (n : Int) (w : World) : Calls Tryz.prog 32 #[.bool true, .int .i64 n] w fun e w' => w' = w ∧ e = .returned (.tuple #[]) := by
  go_enter Tryz.func32, Tryz.ntmps32
  go_wp2
  go_end0
  exact ⟨rfl, rfl⟩
/-- What was given up with. -/
def gaveUp (n : Int) : List PanicEntry := [{ v := .iface 28 (.int .i64 n), recovered := false }]
theorem rmust_no (n : Int) (w : World) : Calls Tryz.prog 32 #[.bool false, .int .i64 n] w fun e w' => w' = w ∧ e = .panicked (gaveUp n) := by
  go_enter Tryz.func32, Tryz.ntmps32
  go_wp2
  exact ⟨rfl, rfl, rfl⟩
theorem rcaught_idle (e c : Value) (w : World) :
    CallsD Tryz.prog 30 #[e, c] .returning w fun e u' w' => e = .returned (.tuple #[]) ∧ u' = .returning ∧ w' = w := by
  refine callsD_of_wpS Tryz.func30 rfl fun c₀ cs hu => ?_
  apply wpS_seq
  apply wpS_region
  simp [wpOpsS, go_sem, recoverD, hu, Tryz.ntmps30, Exit.thenS]
  refine wpS_of_wp ?_
  change Code.wp _ _ _ { tmps := #[e, c, undef, undef, .nilIface, .nilIface, undef, undef, undef, undef, undef, undef, undef, undef], defers := [] } w
  go_wp2
  exact ⟨rfl, _, by rw [← hu], _, results_none rfl _ _ _, rfl, rfl, rfl⟩
set_option maxRecDepth 100000 in
set_option maxHeartbeats 1000000 in
theorem rcaught_panicking (q : Nat) (F : FuncId) (caps : Array Value) (n x : Int) (older : List PanicEntry) (w : World) (hq : Row w q 28 #[.int .i64 x]) (R : World → World → Prop) (hen : ∀ w, (callFunc F caps).run Tryz.prog w = .ok (.enter F caps) w)
    (hcl : ∀ W, Row W q 28 #[.int .i64 n] → w.grownBy W (some q) → Calls Tryz.prog F caps W fun e W' => e = .returned (.tuple #[]) ∧ R W W') :
    CallsD Tryz.prog 30 #[.pointer (some ⟨q, 0, none⟩), .func (.func F) #[] caps] (.panicking ({ v := .iface 28 (.int .i64 n), recovered := false } :: older)) w fun e u' w' =>
      e = .returned (.tuple #[]) ∧ u' = .panicking ({ v := .iface 28 (.int .i64 n), recovered := true } :: older) ∧ ∃ W, Row W q 28 #[.int .i64 n] ∧ w.grownBy W (some q) ∧ R W w' := by
  refine callsD_of_wpS Tryz.func30 rfl fun c₀ cs hu => ?_
  have hset := hq.set 0 (.int .i64 n)
  have hgr := grown_set w q 0 (.int .i64 n)
  have hcq := hcl _ hset hgr
  have hc : w.cell? ⟨q, 0, none⟩ = some (.int .i64 x) := (hq.cell 0).trans rfl
  have hf : w.frozen? ⟨q, 0, none⟩ = false := hq.frozen 0
  have HS := Lib.hid hset
  have HG := Lib.hid hgr
  have HC := Lib.hid hcq
  clear hcl hset hgr hcq hq
  have HE := Lib.hid hc
  have HF := Lib.hid hf
  clear hc hf
  apply wpS_seq
  apply wpS_region
  simp [wpOpsS, go_sem, recoverD, hu, Tryz.ntmps30, Exit.thenS]
  refine wpS_of_wp ?_
  change Code.wp _ _ _ { tmps := #[.pointer (some ⟨q, 0, none⟩), .func (.func F) #[] caps, undef, undef, .iface 28 (.int .i64 n), .iface 28 (.int .i64 n), undef, undef, undef, undef, undef, undef, undef, undef], defers := [] } w
  have hc := HE.out
  have hf := HF.out
  have hta : ∀ w : World, (Instr.typeAssert (.iface 28 (.int .i64 n)) 20 28 false).run Tryz.prog w = .ok (.int .i64 n) w := fun w => by kernel_rfl
  go_upto_region 3 with fail
  go_wp2_with fail
  refine HC.out.mono ?_
  rintro e w2 ⟨rfl, hR⟩
  go_wp2_with fail
  exact ⟨rfl, _, rfl, _, results_none rfl _ _ _, rfl, rfl, _, HS.out, HG.out, hR⟩
section
variable {P : Program} {ops : Array Oper} {rest : List Oper} {o : Oper} {a : Act} {w : World} {Q : Exit → Act → World → Prop}
theorem wpList_idx (hgd : o.guard = none) (T : TypeId) (x y : Operand) (ho : o.op = .indexAddr T x y) (vx vy : Value) (hx : a.eval x = vx) (hy : a.eval y = vy) {v : Value} {w' : World} (hr : (Instr.indexAt T vx vy).run P w = .ok v w')
    (h : wpList P ops Q rest (a.put o.dst v) w') : wpList P ops Q (o :: rest) a w :=
  wpList_plain hgd fun _ hK => by
    unfold Oper.wp execOp
    simp only [ho, Sem.run_bind, Sem.run_pure, Result.andThen_ok, hx, hy, hr]
    exact hK _ _ h
theorem wpList_conv (hgd : o.guard = none) (S T : TypeId) (x : Operand) (ho : o.op = .convert S T x) (vx : Value) (hx : a.eval x = vx) {v : Value} {w' : World} (hr : (convert S T vx).run P w = .ok v w')
    (h : wpList P ops Q rest (a.put o.dst v) w') : wpList P ops Q (o :: rest) a w :=
  wpList_plain hgd fun _ hK => by
    unfold Oper.wp execOp
    simp only [ho, Sem.run_bind, Sem.run_pure, Result.andThen_ok, hx, hr]
    exact hK _ _ h
theorem wpList_field (hgd : o.guard = none) (T : TypeId) (x : Operand) (i : Nat) (ho : o.op = .fieldAddr T x i) (vx : Value) (hx : a.eval x = vx) {v : Value} {w' : World} (hr : (Instr.fieldAt T vx i).run P w = .ok v w')
    (h : wpList P ops Q rest (a.put o.dst v) w') : wpList P ops Q (o :: rest) a w :=
  wpList_plain hgd fun _ hK => by
    unfold Oper.wp execOp
    simp only [ho, Sem.run_bind, Sem.run_pure, Result.andThen_ok, hx, hr]
    exact hK _ _ h
end
theorem infoHop : (Tryz.prog.info? 27).map (·.size) = some 66 := by kernel_rfl
theorem infoHopR : (Tryz.prog.info? 68).map (·.size) = some 66 := by kernel_rfl
theorem infoEdge : (Tryz.prog.info? 44).map (·.size) = some 67 := by kernel_rfl
theorem infoFee1 : (Tryz.prog.info? 42).map (·.size) = some 2 := by kernel_rfl
theorem hopZero : (Tryz.prog.info? 27).map (·.zero) = some (some (.agg (hopC noHop))) := by kernel_rfl
theorem allocHop (w : World) : (Instr.alloc 27 true (.tuple #[])).run Tryz.prog w = .ok (.pointer (some ⟨w.heap.size, 0, none⟩)) (w.alloc (.cells (hopC noHop) 27)) := by kernel_rfl
theorem buildHop0 (w : World) : (Instr.build 27 #[]).run Tryz.prog w = .ok (.agg (hopC noHop)) w := by kernel_rfl
theorem buildH0r (w : World) : (Instr.build 25 #[]).run Tryz.prog w = .ok (.agg (hC zh)) w := by kernel_rfl
theorem boxHopR {h : Hop} (hw : h.wf) (w : World) : (Instr.box 68 (.agg (hopC h))).run Tryz.prog w = .ok (.pointer (some ⟨w.heap.size, 0, none⟩)) (w.alloc (.cells (hopC h) 68)) :=
  run_box_row w _ _ (by rw [hopC_size hw]; exact infoHopR)
theorem loadNextR {w : World} {g : Nat} {t : TypeId} {h : Hop} (hw : h.wf) (hr : Row w g t (hopC h)) : (Instr.loadAt 25 (.pointer (some ⟨g, 32, none⟩))).run Tryz.prog w = .ok (.agg (hC h.next)) w := by
  have hz := hC_size h.next (Nat.le_of_eq hw.2)
  exact run_load_part hr (fun j hj => hopC_next hw j (by omega)) Tryz.underlying25 rfl (by rw [hz]; exact infoH)
theorem loadKeyR {w : World} {g : Nat} {t : TypeId} {h : Hop} (hw : h.wf) (hr : Row w g t (hopC h)) : (Instr.loadAt 25 (.pointer (some ⟨g, 0, none⟩))).run Tryz.prog w = .ok (.agg (hC h.key)) w := by
  have hz := hC_size h.key (Nat.le_of_eq hw.1)
  exact run_load_part hr (fun j hj => by rw [Nat.zero_add]; exact hopC_key hw j (by omega)) Tryz.underlying25 rfl (by rw [hz]; exact infoH)
set_option maxRecDepth 100000 in
theorem rends_any (h : Hop) (hw : h.wf) (w : World) : Calls Tryz.prog 23 #[.agg (hopC h)] w fun e w' => e = .returned (.bool (h.next == zh)) ∧ Later w w' := by
  have hbx := boxHopR hw w
  have hr := Row.new w 68 (hopC h)
  have hld := loadNextR hw hr
  have hL : Later w (w.alloc (.cells (hopC h) 68)) := below_new w _
  have heq := fun W => eqlHash h.next zh hw.2 zh_len W
  have HL := Lib.hid hL
  clear hr hL
  go_enter Tryz.func23, Tryz.ntmps23
  go_wp2_with (first
    | (guard_target =~ wpList _ _ _ (_ :: _) _ _; refine wpList_build rfl 25 _ rfl #[] rfl (buildH0r _) ?_)
    | (guard_target =~ wpList _ _ _ (_ :: _) _ _; refine wpList_load rfl 25 (.tmp 4) rfl (.pointer (some ⟨w.heap.size, 32, none⟩)) rfl hld ?_)
    | (guard_target =~ wpList _ _ _ (_ :: _) _ _; refine wpList_binop rfl .eql 25 25 (.tmp 5) (.tmp 6) rfl (.agg (hC h.next)) (.agg (hC zh)) rfl rfl (by kernel_rfl) (heq _) ?_)
    | fail)
  go_ret
  exact ⟨rfl, HL.out⟩
end Go.Proofs.YtloiaaolnfimgaaGreat
