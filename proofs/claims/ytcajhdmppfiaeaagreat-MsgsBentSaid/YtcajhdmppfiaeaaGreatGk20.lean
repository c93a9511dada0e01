/- Walks, msgs: caught; Parse's small parts. -/
import Derived.Test.YtcajhdmppfiaeaaGreatGk19
import Derived.Stop.Joined
set_option linter.unusedVariables false
set_option linter.unusedSimpArgs false
namespace Go.Proofs.YtcajhdmppfiaeaaGreat
open Go.RowKit Ms
theorem mcaught_idle (e c : Value) (w : World) :
    CallsD Tryz.prog 39 #[e, c] .returning w fun e u' w' => e = .returned (.tuple #[]) ∧ u' = .returning ∧ w' = w := by
  refine callsD_of_wpS Tryz.func39 rfl fun c₀ cs hu => ?_
  apply wpS_seq
  apply wpS_region
  simp [wpOpsS, go_sem, recoverD, hu, Tryz.ntmps39, Exit.thenS]
  refine wpS_of_wp ?_
  change Code.wp _ _ _ { tmps := #[e, c, undef, undef, .nilIface, .nilIface, undef, undef, undef, undef, undef, undef, undef, undef], defers := [] } w
  go_wp2
  exact ⟨rfl, _, by rw [← hu], _, results_none rfl _ _ _, rfl, rfl, rfl⟩
set_option maxRecDepth 100000 in
set_option maxHeartbeats 1000000 in
theorem mcaught_panicking (q : Nat) (F : FuncId) (caps : Array Value) (n x : Int) (older : List PanicEntry) (w : World) (hq : Row w q 33 #[.int .i64 x]) (R : World → World → Prop) (hen : ∀ w, (callFunc F caps).run Tryz.prog w = .ok (.enter F caps) w)
    (hcl : ∀ W, Row W q 33 #[.int .i64 n] → w.grownBy W (some q) → Calls Tryz.prog F caps W fun e W' => e = .returned (.tuple #[]) ∧ R W W') :
    CallsD Tryz.prog 39 #[.pointer (some ⟨q, 0, none⟩), .func (.func F) #[] caps] (.panicking ({ v := .iface 33 (.int .i64 n), recovered := false } :: older)) w fun e u' w' =>
      e = .returned (.tuple #[]) ∧ u' = .panicking ({ v := .iface 33 (.int .i64 n), recovered := true } :: older) ∧ ∃ W, Row W q 33 #[.int .i64 n] ∧ w.grownBy W (some q) ∧ R W w' := by
  refine callsD_of_wpS Tryz.func39 rfl fun c₀ cs hu => ?_
  have hset := hq.set 0 (.int .i64 n)
  have hgr := grown_set w q 0 (.int .i64 n)
  have hcq := hcl _ hset hgr
  have hc : w.cell? ⟨q, 0, none⟩ = some (.int .i64 x) := (hq.cell 0).trans rfl
  have hf : w.frozen? ⟨q, 0, none⟩ = false := hq.frozen 0
  have HS := Lib.hid hset
  have HG := Lib.hid hgr
  have HC := Lib.hid hcq
  clear hcl hset hgr hcq hq
  have HE := Lib.hid hc
  have HF := Lib.hid hf
  clear hc hf
  apply wpS_seq
  apply wpS_region
  simp [wpOpsS, go_sem, recoverD, hu, Tryz.ntmps39, Exit.thenS]
  refine wpS_of_wp ?_
  change Code.wp _ _ _ { tmps := #[.pointer (some ⟨q, 0, none⟩), .func (.func F) #[] caps, undef, undef, .iface 33 (.int .i64 n), .iface 33 (.int .i64 n), undef, undef, undef, undef, undef, undef, undef, undef], defers := [] } w
  have hc := HE.out
  have hf := HF.out
  have hta : ∀ w : World, (Instr.typeAssert (.iface 33 (.int .i64 n)) 20 33 false).run Tryz.prog w = .ok (.int .i64 n) w := fun w => by kernel_rfl
  go_upto_region 3 with fail
  go_wp2_with fail
  refine HC.out.mono ?_
  rintro e w2 ⟨rfl, hR⟩
  go_wp2_with fail
  exact ⟨rfl, _, rfl, _, results_none rfl _ _ _, rfl, rfl, _, HS.out, HG.out, hR⟩
theorem buildSaid0 (w : World) : (Instr.build 29 #[]).run Tryz.prog w = .ok (.agg (saidC (Ms.blank 0))) w := by kernel_rfl
set_option maxRecDepth 100000 in
theorem parseFn_any (q : Nat) (s : Said) (hs : s.wf) (w : World) (hr : Row w q 29 (saidC s)) :
    Calls Tryz.prog 40 #[.pointer (some ⟨q, 0, none⟩)] w fun e w' => e = .returned (.tuple #[]) ∧ Row w' q 29 (saidC (Ms.blank 0)) ∧ w.grownBy w' (some q) := by
  obtain ⟨w', hst, h1, h2⟩ := storeSaid hs (blank_wf 0) hr
  have H1 := Lib.hid h1
  have H2 := Lib.hid h2
  clear h1 h2 hr
  go_enter Tryz.func40, Tryz.ntmps40
  go_wp2_with (first
    | (guard_target =~ wpList _ _ _ (_ :: _) _ _; refine wpList_build rfl 29 _ rfl #[] rfl (buildSaid0 _) ?_)
    | (guard_target =~ wpList _ _ _ (_ :: _) _ _; refine wpList_store rfl 29 (.tmp 0) (.tmp 1) rfl (.pointer (some ⟨q, 0, none⟩)) (.agg (saidC (Ms.blank 0))) rfl rfl hst ?_)
    | fail)
  go_end0
  exact ⟨rfl, H1.out, H2.out⟩
theorem parse_caught (q q3 : Nat) (s : Said) (hs : s.wf) (x : Int) (w W : World) (k2 : Row W q 29 (saidC s)) (k3 : Row W q3 33 #[.int .i64 x]) (hbW : Below w.heap.size w W) (hq : w.heap.size ≤ q) (hq3 : w.heap.size ≤ q3) :
    CallsD Tryz.prog 39 #[.pointer (some ⟨q3, 0, none⟩), .func (.func 40) #[] #[.pointer (some ⟨q, 0, none⟩)]] (.panicking (gaveUp 210)) W fun e u' w' =>
      e = .returned (.tuple #[]) ∧ u' = .panicking ({ v := .iface 33 (.int .i64 210), recovered := true } :: []) ∧ Row w' q 29 (saidC (Ms.blank 0)) ∧ w'.cell? ⟨q3, 0, none⟩ = some (.int .i64 210) ∧ Below w.heap.size w w' := by
  have hne : q ≠ q3 := fun e => by subst e; exact absurd (Row.type k2 k3) (by decide)
  refine (mcaught_panicking q3 40 #[.pointer (some ⟨q, 0, none⟩)] 210 x [] W k3 (fun X X' => Row X' q 29 (saidC (Ms.blank 0)) ∧ X.grownBy X' (some q)) (enters_of Tryz.func40 (by kernel_rfl) rfl _) (fun X hX hg => (parseFn_any q s hs X (k2.grown hg (fun e => hne (Option.some.inj e)))))).mono ?_
  rintro e u' w' ⟨rfl, rfl, X, hk, hg, hp, hg2⟩
  have hb1 : Below w.heap.size w X := hbW.grown hg hbW.size (fun j e => by cases e; exact hq3)
  exact ⟨rfl, rfl, hp, ((hk.grown hg2 (fun e => hne (Option.some.inj e).symm)).cell 0).trans rfl, hb1.grown hg2 hb1.size (fun j e => by cases e; exact hq)⟩
theorem results_cc {P : Program} {fn : Func} {p q : Tmp} {ty t2 : TypeId} (h : fn.results = #[.cell p ty, .cell q t2]) (tmps : Array Value) (w : World) (g g2 : Nat) (t : TypeId) (cs : Array Value) (d : TypeDesc) (v : Value)
    (hp : tmps.getD p undef = .pointer (some ⟨g, 0, none⟩)) (hq : tmps.getD q undef = .pointer (some ⟨g2, 0, none⟩)) (hg : Row w g t cs)
    (hu : P.underlying ty = some d) (hd : (match d with | .struct _ | .array _ _ => true | _ => false) = true) (hi : (P.info? ty).map (·.size) = some cs.size) (h2 : (loadVar t2 ⟨g2, 0, none⟩).run P w = .ok v w) :
    (results fn tmps).run P w = .ok (.tuple #[.agg cs, v]) w := by
  have hp' : tmps[p]?.getD undef = .pointer (some ⟨g, 0, none⟩) := by simpa using hp
  have hq' : tmps[q]?.getD undef = .pointer (some ⟨g2, 0, none⟩) := by simpa using hq
  simp [results, h, hp', hq', asAddr, run_loadVar_row w g t ty cs (0, 0) d hg hu hd hi, h2]
theorem loadErr {w : World} {g : Nat} {n : Int} (h : w.cell? ⟨g, 0, none⟩ = some (.int .i64 n)) : (loadVar 33 ⟨g, 0, none⟩).run Tryz.prog w = .ok (.int .i64 n) w := by
  go_simp
end Go.Proofs.YtcajhdmppfiaeaaGreat
