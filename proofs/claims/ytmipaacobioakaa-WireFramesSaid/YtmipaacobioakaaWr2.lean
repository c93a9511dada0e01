/- Walks: try, with the deferred closure that recovers. -/
import Derived.Test.YtmipaacobioakaaWr1
set_option linter.unusedVariables false
set_option linter.unusedSimpArgs false
namespace Go.Proofs.Ytmipaacobioakaa
open Go.RowKit
theorem infoRest : (Try.prog.info? 45).map (·.size) = some 1 := by kernel_rfl
theorem put_rest {w : World} {g : Nat} {A D : Option Addr} {n c n' c' : Nat} {made bad : Bool} (hr : Row w g 47 (rdC D n' c' made bad)) : ∃ w', (Instr.storeAt 45 (.pointer (some ⟨g, 0, none⟩)) (.agg #[.slice A n c])).run Try.prog w = .ok () w' ∧ Row w' g 47 (rdC A n c made bad) ∧ w.grownBy w' (some g) :=
  ⟨_, run_store_row hr #[.slice A n c] infoRest (by simp [rdC]) (by kernel_rfl), row_setCells [.slice A n c] 0 w _ hr, grown_setCells _ _ _⟩
set_option maxRecDepth 100000 in
set_option maxHeartbeats 1000000 in
theorem catch_panicking (q3 q6 q7 g : Nat) (T3 : TypeId) (A : Option Addr) (n c : Nat) (older : List PanicEntry) (w : World) (x : Int) (D : Option Addr) (n' c' : Nat) (b : Bool) (h7 : Row w q7 45 #[.slice A n c]) (h3 : Row w q3 T3 #[.pointer (some ⟨g, 0, none⟩)]) (h6 : Row w q6 26 #[.int .i64 x]) (hr : Row w g 47 (rdC D n' c' true b)) (h6g : q6 ≠ g) :
    CallsD Try.prog 70 #[.pointer (some ⟨q7, 0, none⟩), .pointer (some ⟨q3, 0, none⟩), .pointer (some ⟨q6, 0, none⟩)] (.panicking ({ v := .iface 125 (.agg #[]), recovered := false } :: older)) w fun e u' w' =>
      e = .returned (.tuple #[]) ∧ u' = .panicking ({ v := .iface 125 (.agg #[]), recovered := true } :: older) ∧ Row w' q6 26 #[.int .i64 140] ∧ Row w' g 47 (rdC A n c true true) ∧ Same (fun k => k < w.heap.size ∧ k ≠ g ∧ k ≠ q6) w w' := by
  refine callsD_of_wpS Try.func70 rfl fun c₀ cs hu => ?_
  have H7 := Lib.hid (h7.alloc (.cells #[] 125))
  have H3 := Lib.hid (h3.alloc (.cells #[] 125))
  have H6 := Lib.hid (h6.alloc (.cells #[] 125))
  have HR := Lib.hid (hr.alloc (.cells #[] 125))
  have HA := Lib.hid (Same.alloc w (.cells #[] 125))
  clear h7 h3 h6 hr
  apply wpS_seq
  apply wpS_region
  simp [wpOpsS, go_sem, recoverD, hu, Try.ntmps70, Exit.thenS]
  refine wpS_of_wp ?_
  have hta : ∀ w : World, (Instr.typeAssert (.iface 125 (.agg #[])) 20 125 true).run Try.prog w = .ok (.tuple #[.agg #[], .bool true]) w := fun w => by kernel_rfl
  change Code.wp _ _ _ { tmps := #[.pointer (some ⟨q7, 0, none⟩), .pointer (some ⟨q3, 0, none⟩), .pointer (some ⟨q6, 0, none⟩), undef, undef, undef, .iface 125 (.agg #[]), undef, undef, undef, undef, undef, undef, undef, undef, undef, undef, undef, undef], defers := [] } w
  go_upto_region 7 with fail
  have k7 := H7.out
  have k3 := H3.out
  have k6 := H6.out
  have kg := HR.out
  have hs1 := HA.out
  clear H7 H3 H6 HR HA hta
  generalize w.alloc (.cells #[] 125) = w1 at *
  have h3c : w1.cell? ⟨q3, 0, none⟩ = some (.pointer (some ⟨g, 0, none⟩)) := (k3.cell 0).trans rfl
  obtain ⟨w2, hst2, kg2, hg2⟩ := put_rest (A := A) (n := n) (c := c) kg
  have k62 := k6.grown hg2 (fun e => h6g (Option.some.inj e))
  have c2 : w2.cell? ⟨g, 2, none⟩ = some (.bool b) := (kg2.cell 2).trans rfl
  have f2 : w2.frozen? ⟨g, 2, none⟩ = false := kg2.frozen 2
  have kg3 : Row (w2.setCell ⟨g, 2, none⟩ (.bool true)) g 47 (rdC A n c true true) := kg2.set 2 _
  have k63 := k62.far (p := ⟨g, 2, none⟩) h6g (.bool true)
  have hs3 : Same (fun k => k < w.heap.size ∧ k ≠ g ∧ k ≠ q6) w (w2.setCell ⟨g, 2, none⟩ (.bool true)) :=
    ((hs1.mono (fun k h => h.1)).trans ((Same.of_grown hg2).mono (fun k h => ⟨Nat.lt_of_lt_of_le h.1 hs1.size, fun e => h.2.1 (Option.some.inj e)⟩))).trans ((Same.set w2 ⟨g, 2, none⟩ (.bool true)).mono (fun k h => h.2.1))
  have c6 : (w2.setCell ⟨g, 2, none⟩ (.bool true)).cell? ⟨q6, 0, none⟩ = some (.int .i64 x) := (k63.cell 0).trans rfl
  have f6 : (w2.setCell ⟨g, 2, none⟩ (.bool true)).frozen? ⟨q6, 0, none⟩ = false := k63.frozen 0
  have k64 := k63.set 0 (.int .i64 140)
  have kg4 := kg3.far (p := ⟨q6, 0, none⟩) (fun e => h6g e.symm) (.int .i64 140)
  have hs4 := hs3.trans ((Same.set (w2.setCell ⟨g, 2, none⟩ (.bool true)) ⟨q6, 0, none⟩ (.int .i64 140)).mono (fun k h => h.2.2))
  have K := Lib.hid (And.intro k64 (And.intro kg4 hs4))
  clear k64 kg4 hs4 k63 kg3 hs3 k62 hs1
  go_wp2_with (first
    | (refine wpList_load rfl 45 (.tmp 0) rfl (.pointer (some ⟨q7, 0, none⟩)) rfl (run_load_row k7 Try.underlying45 rfl infoRest) ?_)
    | (refine wpList_store rfl 45 (.tmp 16) (.tmp 14) rfl (.pointer (some ⟨g, 0, none⟩)) (.agg #[.slice A n c]) rfl rfl hst2 ?_)
    | fail)
  exact ⟨rfl, _, rfl, _, results_none rfl _ _ _, rfl, rfl, K.out.1, K.out.2.1, K.out.2.2⟩
theorem catch_idle (c3 c6 c7 : Value) (w : World) :
    CallsD Try.prog 70 #[c7, c3, c6] .returning w fun e u' w' => e = .returned (.tuple #[]) ∧ u' = .returning ∧ w' = w := by
  refine callsD_of_wpS Try.func70 rfl fun c₀ cs hu => ?_
  apply wpS_seq
  apply wpS_region
  simp [wpOpsS, go_sem, recoverD, hu, Try.ntmps70, Exit.thenS]
  refine wpS_of_wp ?_
  change Code.wp _ _ _ { tmps := #[c7, c3, c6, undef, undef, undef, .nilIface, undef, undef, undef, undef, undef, undef, undef, undef, undef, undef, undef, undef], defers := [] } w
  go_wp2
  trace_state
  exact ⟨rfl, _, by rw [← hu], _, results_none rfl _ _ _, rfl, rfl, rfl⟩
end Go.Proofs.Ytmipaacobioakaa
