/- Walks, route: leaving a function that defers and ranges over a function; Plan's small parts. -/
import Derived.Test.YtloiaaolnfimgaaGreatRk4
import Derived.Test.YtloiaaolnfimgaaGreatRy
import Derived.RangeFuncLeaves
set_option linter.unusedVariables false
set_option linter.unusedSimpArgs false
namespace Go.Proofs.YtloiaaolnfimgaaGreat
open Go.RowKit Rt
section
variable {P : Program}
theorem callsDIn_of_wpS {n : Nat} {f : FuncId} {fn : Func} {c : Code} {args : Array Value} {u : FrameMode} {w : World} {R : Ending → FrameMode → World → Prop}
    (hf : P.funcs[f]? = some fn) (hb : fn.body = some c)
    (h : ∀ (c₀ : Frame) (cs : List Frame), c₀.mode = u →
      c.wpS P (bodyPostS P fn c₀ cs R) { tmps := args ++ Array.replicate (fn.ntmps - args.size) undef, defers := [] } (c₀ :: cs) w) :
    CallsDIn Fence.wide n P f args u w R := by
  refine ⟨trivial, fun c₀ cs hu _ => ?_⟩
  let b : Frame := { (default : Frame) with fn := f, kind := .deferred }
  have henter : Frame.enter P f args .deferred =
      b.at { tmps := args ++ Array.replicate (fn.ntmps - args.size) undef, defers := [] } [.code c] := by
    simp [Frame.enter, Frame.at, hf, hb, b]
  obtain ⟨e, a', cs', w', hq, harr⟩ := h c₀ cs hu b [] rfl rfl
  rw [← henter] at harr
  cases e with
  | normal =>
    obtain ⟨hd, u', rfl, v, hr, hR⟩ := hq
    exact ⟨.returned v, u', w', _, hR, comesIn_wide.2 (Steps.trans harr (.one step_end)), rfl, rfl, rfl, hd, fn, hf, hr⟩
  | ret =>
    obtain ⟨hd, u', rfl, v, hr, hR⟩ := hq
    obtain ⟨todo, hs⟩ := harr
    exact ⟨.returned v, u', w', _, hR, comesIn_wide.2 hs, rfl, rfl, rfl, hd, fn, hf, hr⟩
  | panic chain =>
    obtain ⟨hd, u', rfl, hR⟩ := hq
    obtain ⟨todo, hs⟩ := harr
    exact ⟨.panicked chain, u', w', _, hR, comesIn_wide.2 hs, rfl, rfl, rfl, hd, fn, hf⟩
  | exit id => exact hq.elim
  | goto l => exact hq.elim
  | outgrown =>
    obtain ⟨u', hR⟩ := hq
    exact ⟨.outgrown, u', w', b, hR, comesIn_wide.2 (harr.resolve_left (by simp [b])), rfl, rfl, trivial⟩
theorem leavesM_cons {n : Nat} {fn : Func} {T : Array Value} {R : Ending → World → Prop} {d : Deferred} {ds : List Deferred} {u : FrameMode} {w : World} {fv : Fn} {cap : Array Value} {f : FuncId} {args : Array Value}
    (hu : u ≠ .run) (ht : d.target = .fn fv cap) (hi : (invoke d.target d.args).run P w = .ok (.enter f args) w)
    (hc : CallsDIn Fence.wide (n - 1) P f args u w fun
      | .returned _, u', w' => LeavesInM Fence.wide n P fn T R ds (settle u') w'
      | .panicked chain, u', w' => LeavesInM Fence.wide n P fn T R ds (raised u' chain) w'
      | .outgrown, _, w' => R .outgrown w') : LeavesInM Fence.wide n P fn T R (d :: ds) u w :=
  ⟨hu, .inr ⟨(fun h => by cases h), fv, cap, f, args, ht, hi, fun _ _ => trivial, hc⟩⟩
theorem leavesM_mark {n : Nat} {fn : Func} {T : Array Value} {R : Ending → World → Prop} {D : Nat} {ds : List Deferred} {u : FrameMode} {w : World} (hu : u ≠ .run) (hD : w.heap[D]? = some (.deferred (some [])))
    (h : LeavesInM Fence.wide n P fn T R ds u (w.putObj D (.deferred none))) : LeavesInM Fence.wide n P fn T R ({ target := .collected D, args := #[] } :: ds) u w :=
  ⟨hu, .inl ⟨_, _, rfl, run_takeDeferred hD, h⟩⟩
end
theorem rcaughtIn_idle (n : Nat) (e c : Value) (w : World) :
    CallsDIn Fence.wide n Tryz.prog 30 #[e, c] .returning w fun e u' w' => e = .returned (.tuple #[]) ∧ u' = .returning ∧ w' = w := by
  refine callsDIn_of_wpS Tryz.func30 rfl fun c₀ cs hu => ?_
  apply wpS_seq
  apply wpS_region
  simp [wpOpsS, go_sem, recoverD, hu, Tryz.ntmps30, Exit.thenS]
  refine wpS_of_wp ?_
  change Code.wp _ _ _ { tmps := #[e, c, undef, undef, .nilIface, .nilIface, undef, undef, undef, undef, undef, undef, undef, undef], defers := [] } w
  go_wp2
  exact ⟨rfl, _, by rw [← hu], _, results_none rfl _ _ _, rfl, rfl, rfl⟩
set_option maxRecDepth 100000 in
set_option maxHeartbeats 1000000 in
theorem rcaughtIn_panicking (n0 : Nat) (q : Nat) (F : FuncId) (caps : Array Value) (n x : Int) (older : List PanicEntry) (w : World) (hq : Row w q 28 #[.int .i64 x]) (R : World → World → Prop) (hen : ∀ w, (callFunc F caps).run Tryz.prog w = .ok (.enter F caps) w)
    (hcl : ∀ W, Row W q 28 #[.int .i64 n] → w.grownBy W (some q) → Calls Tryz.prog F caps W fun e W' => e = .returned (.tuple #[]) ∧ R W W') :
    CallsDIn Fence.wide n0 Tryz.prog 30 #[.pointer (some ⟨q, 0, none⟩), .func (.func F) #[] caps] (.panicking ({ v := .iface 28 (.int .i64 n), recovered := false } :: older)) w fun e u' w' =>
      e = .returned (.tuple #[]) ∧ u' = .panicking ({ v := .iface 28 (.int .i64 n), recovered := true } :: older) ∧ ∃ W, Row W q 28 #[.int .i64 n] ∧ w.grownBy W (some q) ∧ R W w' := by
  refine callsDIn_of_wpS Tryz.func30 rfl fun c₀ cs hu => ?_
  have hset := hq.set 0 (.int .i64 n)
  have hgr := grown_set w q 0 (.int .i64 n)
  have hcq := hcl _ hset hgr
  have hc : w.cell? ⟨q, 0, none⟩ = some (.int .i64 x) := (hq.cell 0).trans rfl
  have hf : w.frozen? ⟨q, 0, none⟩ = false := hq.frozen 0
  have HS := Lib.hid hset
  have HG := Lib.hid hgr
  have HC := Lib.hid hcq
  clear hcl hset hgr hcq hq
  have HE := Lib.hid hc
  have HF := Lib.hid hf
  clear hc hf
  apply wpS_seq
  apply wpS_region
  simp [wpOpsS, go_sem, recoverD, hu, Tryz.ntmps30, Exit.thenS]
  refine wpS_of_wp ?_
  change Code.wp _ _ _ { tmps := #[.pointer (some ⟨q, 0, none⟩), .func (.func F) #[] caps, undef, undef, .iface 28 (.int .i64 n), .iface 28 (.int .i64 n), undef, undef, undef, undef, undef, undef, undef, undef], defers := [] } w
  have hc := HE.out
  have hf := HF.out
  have hta : ∀ w : World, (Instr.typeAssert (.iface 28 (.int .i64 n)) 20 28 false).run Tryz.prog w = .ok (.int .i64 n) w := fun w => by kernel_rfl
  go_upto_region 3 with fail
  go_wp2_with fail
  refine HC.out.mono ?_
  rintro e w2 ⟨rfl, hR⟩
  go_wp2_with fail
  exact ⟨rfl, _, rfl, _, results_none rfl _ _ _, rfl, rfl, _, HS.out, HG.out, hR⟩
set_option maxRecDepth 100000 in
theorem planFn_any (q q5 : Nat) (h : Hop) (hw : h.wf) (v : Value) (w : World) (hr : Row w q 27 (hopC h)) (h5 : Row w q5 22 #[v]) :
    Calls Tryz.prog 45 #[.pointer (some ⟨q, 0, none⟩), .pointer (some ⟨q5, 0, none⟩)] w fun e w' => e = .returned (.tuple #[]) ∧ Row w' q 27 (hopC noHop) ∧ Row w' q5 22 #[.slice none 0 0] ∧ Same (fun k => k < w.heap.size ∧ k ≠ q ∧ k ≠ q5) w w' := by
  have hne := ne_rows hr h5 (by decide)
  obtain ⟨w1, hst, h1, h2⟩ := storeHop hw noHop_wf hr
  have h51 := h5.grown h2 (fun e => hne (Option.some.inj e).symm)
  have h52 := h51.set 0 (.slice none 0 0)
  have h12 := h1.far (p := ⟨q5, 0, none⟩) hne (.slice none 0 0)
  have hS : Same (fun k => k < w.heap.size ∧ k ≠ q ∧ k ≠ q5) w (w1.setCell ⟨q5, 0, none⟩ (.slice none 0 0)) :=
    ((Same.of_grown h2).mono fun k hk => ⟨hk.1, fun e => hk.2.1 (Option.some.inj e)⟩).trans ((Same.set w1 ⟨q5, 0, none⟩ _).mono fun k hk => hk.2.2)
  have c5 : w1.cell? ⟨q5, 0, none⟩ = some v := (h51.cell 0).trans rfl
  have f5 : w1.frozen? ⟨q5, 0, none⟩ = false := h51.frozen 0
  have H1 := Lib.hid h12
  have H2 := Lib.hid h52
  have H3 := Lib.hid hS
  clear h1 h2 hr h5 h51 h52 h12 hS
  go_enter Tryz.func45, Tryz.ntmps45
  go_wp2_with (first
    | (guard_target =~ wpList _ _ _ (_ :: _) _ _; refine wpList_build rfl 27 _ rfl #[] rfl (buildHop0 _) ?_)
    | (guard_target =~ wpList _ _ _ (_ :: _) _ _; refine wpList_store rfl 27 (.tmp 0) (.tmp 2) rfl (.pointer (some ⟨q, 0, none⟩)) (.agg (hopC noHop)) rfl rfl hst ?_)
    | fail)
  go_end0
  exact ⟨rfl, H1.out, H2.out, H3.out⟩
theorem plan_caught (n0 : Nat) (q q5 q6 : Nat) (h : Hop) (hw : h.wf) (v : Value) (x n : Int) (w W : World) (k4 : Row W q 27 (hopC h)) (k5 : Row W q5 22 #[v]) (k6 : Row W q6 28 #[.int .i64 x]) (hbW : Below w.heap.size w W) (hq : w.heap.size ≤ q) (hq5 : w.heap.size ≤ q5) (hq6 : w.heap.size ≤ q6) :
    CallsDIn Fence.wide n0 Tryz.prog 30 #[.pointer (some ⟨q6, 0, none⟩), .func (.func 45) #[] #[.pointer (some ⟨q, 0, none⟩), .pointer (some ⟨q5, 0, none⟩)]] (.panicking (gaveUp n)) W fun e u' w' =>
      e = .returned (.tuple #[]) ∧ u' = .panicking ({ v := .iface 28 (.int .i64 n), recovered := true } :: []) ∧ Row w' q 27 (hopC noHop) ∧ w'.cell? ⟨q5, 0, none⟩ = some (.slice none 0 0) ∧ w'.cell? ⟨q6, 0, none⟩ = some (.int .i64 n) ∧ Below w.heap.size w w' := by
  have hne := ne_rows k4 k6 (by decide)
  have hne5 := ne_rows k5 k6 (by decide)
  refine (rcaughtIn_panicking n0 q6 45 #[.pointer (some ⟨q, 0, none⟩), .pointer (some ⟨q5, 0, none⟩)] n x [] W k6 (fun X X' => Row X' q 27 (hopC noHop) ∧ Row X' q5 22 #[.slice none 0 0] ∧ Same (fun k => k < X.heap.size ∧ k ≠ q ∧ k ≠ q5) X X') (enters_of Tryz.func45 (by kernel_rfl) rfl _) (fun X hX hg => (planFn_any q q5 h hw v X (k4.grown hg (fun e => hne (Option.some.inj e))) (k5.grown hg (fun e => hne5 (Option.some.inj e)))))).mono ?_
  rintro e u' w' ⟨rfl, rfl, X, hk, hg, hp, hp5, hs2⟩
  have hb1 : Below w.heap.size w X := hbW.grown hg hbW.size (fun j e => by cases e; exact hq6)
  exact ⟨rfl, rfl, hp, (hp5.cell 0).trans rfl, ((hk.same hs2 ⟨hk.lt, fun e => hne e.symm, fun e => hne5 e.symm⟩).cell 0).trans rfl, hb1.trans (hs2.below_of fun k h => ⟨Nat.lt_of_lt_of_le h hb1.size, by omega, by omega⟩)⟩
theorem loadHopsVar {w : World} {g : Nat} {v : Value} (h : w.cell? ⟨g, 0, none⟩ = some v) : (loadVar 22 ⟨g, 0, none⟩).run Tryz.prog w = .ok v w := by
  go_simp
end Go.Proofs.YtloiaaolnfimgaaGreat
