/- Walks, secrets: caught. -/
import Derived.Test.YthabgfghogdkcaaDoorSc5b
set_option linter.unusedVariables false
set_option linter.unusedSimpArgs false
namespace Go.Proofs.YthabgfghogdkcaaDoor
open Go.RowKit
theorem caught_idle (e c : Value) (w : World) :
    CallsD Tryd.prog 28 #[e, c] .returning w fun e u' w' => e = .returned (.tuple #[]) ∧ u' = .returning ∧ w' = w := by
  refine callsD_of_wpS Tryd.func28 rfl fun c₀ cs hu => ?_
  apply wpS_seq
  apply wpS_region
  simp [wpOpsS, go_sem, recoverD, hu, Tryd.ntmps28, Exit.thenS]
  refine wpS_of_wp ?_
  change Code.wp _ _ _ { tmps := #[e, c, undef, undef, .nilIface, .nilIface, undef, undef, undef, undef, undef, undef, undef, undef], defers := [] } w
  go_wp2
  exact ⟨rfl, _, by rw [← hu], _, results_none rfl _ _ _, rfl, rfl, rfl⟩
set_option maxRecDepth 100000 in
set_option maxHeartbeats 1000000 in
theorem caught_panicking (q : Nat) (F : FuncId) (caps : Array Value) (n x : Int) (older : List PanicEntry) (w : World) (hq : Row w q 24 #[.int .i64 x]) (R : World → World → Prop) (hen : ∀ w, (callFunc F caps).run Tryd.prog w = .ok (.enter F caps) w)
    (hcl : ∀ W, Row W q 24 #[.int .i64 n] → w.grownBy W (some q) → Calls Tryd.prog F caps W fun e W' => e = .returned (.tuple #[]) ∧ R W W') :
    CallsD Tryd.prog 28 #[.pointer (some ⟨q, 0, none⟩), .func (.func F) #[] caps] (.panicking ({ v := .iface 24 (.int .i64 n), recovered := false } :: older)) w fun e u' w' =>
      e = .returned (.tuple #[]) ∧ u' = .panicking ({ v := .iface 24 (.int .i64 n), recovered := true } :: older) ∧ ∃ W, Row W q 24 #[.int .i64 n] ∧ w.grownBy W (some q) ∧ R W w' := by
  refine callsD_of_wpS Tryd.func28 rfl fun c₀ cs hu => ?_
  have hset := hq.set 0 (.int .i64 n)
  have hgr := grown_set w q 0 (.int .i64 n)
  have hcq := hcl _ hset hgr
  have hc : w.cell? ⟨q, 0, none⟩ = some (.int .i64 x) := (hq.cell 0).trans rfl
  have hf : w.frozen? ⟨q, 0, none⟩ = false := hq.frozen 0
  have HS := Lib.hid hset
  have HG := Lib.hid hgr
  have HC := Lib.hid hcq
  clear hcl hset hgr hcq hq
  have HE := Lib.hid hc
  have HF := Lib.hid hf
  clear hc hf
  apply wpS_seq
  apply wpS_region
  simp [wpOpsS, go_sem, recoverD, hu, Tryd.ntmps28, Exit.thenS]
  refine wpS_of_wp ?_
  change Code.wp _ _ _ { tmps := #[.pointer (some ⟨q, 0, none⟩), .func (.func F) #[] caps, undef, undef, .iface 24 (.int .i64 n), .iface 24 (.int .i64 n), undef, undef, undef, undef, undef, undef, undef, undef], defers := [] } w
  have hc := HE.out
  have hf := HF.out
  have hta : ∀ w : World, (Instr.typeAssert (.iface 24 (.int .i64 n)) 20 24 false).run Tryd.prog w = .ok (.int .i64 n) w := fun w => by kernel_rfl
  go_upto_region 3 with fail
  go_wp2_with fail
  refine HC.out.mono ?_
  rintro e w2 ⟨rfl, hR⟩
  go_wp2_with fail
  exact ⟨rfl, _, rfl, _, results_none rfl _ _ _, rfl, rfl, _, HS.out, HG.out, hR⟩
theorem zero_keep0 : Tryd.zeroCells60 = kC 0 (fun _ => 0) (fun _ => []) false := by kernel_rfl
theorem allocKeep (w : World) : (Instr.alloc 60 true (.tuple #[])).run Tryd.prog w = .ok (.pointer (some ⟨w.heap.size, 0, none⟩)) (w.alloc (.cells (kC 0 (fun _ => 0) (fun _ => []) false) 60)) := by kernel_rfl
theorem putKeep {w : World} {q : Nat} {n m : Int} {ix jx : Nat → Nat} {sc tc : Nat → List UInt8} {a b : Bool} (ht : ∀ p, p < 32 → (tc p).length ≤ 32) (hr : Row w q 60 (kC n ix sc a)) : ∃ w', (Instr.storeAt 60 (.pointer (some ⟨q, 0, none⟩)) (.agg (kC m jx tc b))).run Tryd.prog w = .ok () w' ∧ Row w' q 60 (kC m jx tc b) ∧ w.grownBy w' (some q) :=
  run_put_row hr (by rw [kC_size, kC_size]) (by rw [kC_size]; exact infoK) (kC_one _ _ _ _ ht)
theorem loadPK {b o : Nat} {x : Option Addr} {W : World} (hc : W.cell? ⟨b, o, none⟩ = some (.pointer x)) : (Instr.loadAt 31 (.pointer (some ⟨b, o, none⟩))).run Tryd.prog W = .ok (.pointer x) W := by
  go_simp
theorem same_grown {w w' : World} {g : Nat} (h : w.grownBy w' (some g)) : Same (fun k => k < w.heap.size ∧ k ≠ g) w w' := (Same.of_grown h).mono fun k hk => ⟨hk.1, fun e => hk.2 (Option.some.inj e)⟩
theorem same_step {w W W' : World} {g : Nat} (h : Same (fun k => k < w.heap.size ∧ k ≠ g) w W) (h2 : Same (fun k => k < W.heap.size ∧ k ≠ g) W W') : Same (fun k => k < w.heap.size ∧ k ≠ g) w W' := h.trans (h2.mono fun k hk => ⟨Nat.lt_of_lt_of_le hk.1 h.size, hk.2⟩)
theorem same_later {w W : World} {g : Nat} (h : Later w W) : Same (fun k => k < w.heap.size ∧ k ≠ g) w W := (Same.of_below h).mono fun k hk => hk.1
/-- A block of one's own is written. -/
theorem same_own {w W W' : World} {g q : Nat} (h : Same (fun k => k < w.heap.size ∧ k ≠ g) w W) (h2 : W.grownBy W' (some q)) (hq : w.heap.size ≤ q) : Same (fun k => k < w.heap.size ∧ k ≠ g) w W' := h.trans ((Same.of_grown h2).mono fun k hk => ⟨Nat.lt_of_lt_of_le hk.1 h.size, fun e => by injection e with e; have := hk.1; omega⟩)
end Go.Proofs.YthabgfghogdkcaaDoor
