/- Walks, route: what Peel and Wrap refuse at once. -/
import Derived.Test.YtloiaaolnfimgaaGreatRk1
set_option linter.unusedVariables false
set_option linter.unusedSimpArgs false
namespace Go.Proofs.YtloiaaolnfimgaaGreat
open Go.RowKit Rt
theorem storeHop {w : World} {g : Nat} {t : TypeId} {h h' : Hop} (hw : h.wf) (hw' : h'.wf) (hr : Row w g t (hopC h)) : ∃ w', (Instr.storeAt 27 (.pointer (some ⟨g, 0, none⟩)) (.agg (hopC h'))).run Tryz.prog w = .ok () w' ∧ Row w' g t (hopC h') ∧ w.grownBy w' (some g) :=
  run_put_row hr (by rw [hopC_size hw, hopC_size hw']) (by rw [hopC_size hw']; exact infoHop) (hopC_one h')
theorem loadHopR {w : World} {g : Nat} {t : TypeId} {h : Hop} (hw : h.wf) (hr : Row w g t (hopC h)) : (Instr.loadAt 27 (.pointer (some ⟨g, 0, none⟩))).run Tryz.prog w = .ok (.agg (hopC h)) w :=
  run_load_row hr Tryz.underlying27 rfl (by rw [hopC_size hw]; exact infoHop)
theorem results_ccc {P : Program} {fn : Func} {p q r : Tmp} {ty t2 t3 : TypeId} (h : fn.results = #[.cell p ty, .cell q t2, .cell r t3]) (tmps : Array Value) (w : World) (g g2 g3 : Nat) (t : TypeId) (cs : Array Value) (d : TypeDesc) (v x : Value)
    (hp : tmps.getD p undef = .pointer (some ⟨g, 0, none⟩)) (hq : tmps.getD q undef = .pointer (some ⟨g2, 0, none⟩)) (hr : tmps.getD r undef = .pointer (some ⟨g3, 0, none⟩)) (hg : Row w g t cs)
    (hu : P.underlying ty = some d) (hd : (match d with | .struct _ | .array _ _ => true | _ => false) = true) (hi : (P.info? ty).map (·.size) = some cs.size) (h2 : (loadVar t2 ⟨g2, 0, none⟩).run P w = .ok v w) (h3 : (loadVar t3 ⟨g3, 0, none⟩).run P w = .ok x w) :
    (results fn tmps).run P w = .ok (.tuple #[.agg cs, v, x]) w := by
  have hp' : tmps[p]?.getD undef = .pointer (some ⟨g, 0, none⟩) := by simpa using hp
  have hq' : tmps[q]?.getD undef = .pointer (some ⟨g2, 0, none⟩) := by simpa using hq
  have hr' : tmps[r]?.getD undef = .pointer (some ⟨g3, 0, none⟩) := by simpa using hr
  simp [results, h, hp', hq', hr', asAddr, run_loadVar_row w g t ty cs (0, 0) d hg hu hd hi, h2, h3]
theorem results_cc {P : Program} {fn : Func} {p q : Tmp} {ty t2 : TypeId} (h : fn.results = #[.cell p ty, .cell q t2]) (tmps : Array Value) (w : World) (g g2 : Nat) (t : TypeId) (cs : Array Value) (d : TypeDesc) (v : Value)
    (hp : tmps.getD p undef = .pointer (some ⟨g, 0, none⟩)) (hq : tmps.getD q undef = .pointer (some ⟨g2, 0, none⟩)) (hg : Row w g t cs)
    (hu : P.underlying ty = some d) (hd : (match d with | .struct _ | .array _ _ => true | _ => false) = true) (hi : (P.info? ty).map (·.size) = some cs.size) (h2 : (loadVar t2 ⟨g2, 0, none⟩).run P w = .ok v w) :
    (results fn tmps).run P w = .ok (.tuple #[.agg cs, v]) w := by
  have hp' : tmps[p]?.getD undef = .pointer (some ⟨g, 0, none⟩) := by simpa using hp
  have hq' : tmps[q]?.getD undef = .pointer (some ⟨g2, 0, none⟩) := by simpa using hq
  simp [results, h, hp', hq', asAddr, run_loadVar_row w g t ty cs (0, 0) d hg hu hd hi, h2]
theorem loadErr {w : World} {g : Nat} {n : Int} (h : w.cell? ⟨g, 0, none⟩ = some (.int .i64 n)) : (loadVar 28 ⟨g, 0, none⟩).run Tryz.prog w = .ok (.int .i64 n) w := by
  go_simp
theorem loadStrVar {w : World} {g : Nat} {s : ByteArray} (h : w.cell? ⟨g, 0, none⟩ = some (.string s)) : (loadVar 9 ⟨g, 0, none⟩).run Tryz.prog w = .ok (.string s) w := by
  go_simp
theorem Row.type {w : World} {g : Nat} {t u : TypeId} {cs ds : Array Value} (h : Row w g t cs) (k : Row w g u ds) : t = u := by
  have e := (show w.heap[g]? = _ from h).symm.trans (show w.heap[g]? = _ from k)
  simp only [Option.some.injEq, Obj.cells.injEq] at e
  exact e.2.1
theorem ne_rows {w : World} {k q : Nat} {T U : TypeId} {cs cs' : Array Value} (h1 : Row w k T cs) (h2 : Row w q U cs') (hT : T ≠ U) : k ≠ q := fun e => by
  subst e
  exact hT (Row.type h1 h2)
set_option maxRecDepth 100000 in
theorem peelFn_any (q q5 : Nat) (h : Hop) (hw : h.wf) (s : ByteArray) (w : World) (hr : Row w q 27 (hopC h)) (h5 : Row w q5 9 #[.string s]) :
    Calls Tryz.prog 31 #[.pointer (some ⟨q, 0, none⟩), .pointer (some ⟨q5, 0, none⟩)] w fun e w' => e = .returned (.tuple #[]) ∧ Row w' q 27 (hopC noHop) ∧ Row w' q5 9 #[.string ⟨#[]⟩] ∧ Same (fun k => k < w.heap.size ∧ k ≠ q ∧ k ≠ q5) w w' := by
  have hne := ne_rows hr h5 (by decide)
  obtain ⟨w1, hst, h1, h2⟩ := storeHop hw noHop_wf hr
  have h51 := h5.grown h2 (fun e => hne (Option.some.inj e).symm)
  have h52 := h51.set 0 (.string ⟨#[]⟩)
  have h12 := h1.far (p := ⟨q5, 0, none⟩) hne (.string ⟨#[]⟩)
  have hS : Same (fun k => k < w.heap.size ∧ k ≠ q ∧ k ≠ q5) w (w1.setCell ⟨q5, 0, none⟩ (.string ⟨#[]⟩)) :=
    ((Same.of_grown h2).mono fun k hk => ⟨hk.1, fun e => hk.2.1 (Option.some.inj e)⟩).trans ((Same.set w1 ⟨q5, 0, none⟩ _).mono fun k hk => hk.2.2)
  have c5 : w1.cell? ⟨q5, 0, none⟩ = some (.string s) := (h51.cell 0).trans rfl
  have f5 : w1.frozen? ⟨q5, 0, none⟩ = false := h51.frozen 0
  have H1 := Lib.hid h12
  have H2 := Lib.hid h52
  have H3 := Lib.hid hS
  clear h1 h2 hr h5 h51 h52 h12 hS
  go_enter Tryz.func31, Tryz.ntmps31
  go_wp2_with (first
    | (guard_target =~ wpList _ _ _ (_ :: _) _ _; refine wpList_build rfl 27 _ rfl #[] rfl (buildHop0 _) ?_)
    | (guard_target =~ wpList _ _ _ (_ :: _) _ _; refine wpList_store rfl 27 (.tmp 0) (.tmp 2) rfl (.pointer (some ⟨q, 0, none⟩)) (.agg (hopC noHop)) rfl rfl hst ?_)
    | fail)
  go_end0
  exact ⟨rfl, H1.out, H2.out, H3.out⟩
theorem Same.below_of {B : Nat} {p : Nat → Prop} {a b : World} (h : Same p a b) (hp : ∀ k, k < B → p k) : Below B a b := Same.below (h.mono hp)
theorem peel_caught (q q5 q6 : Nat) (h : Hop) (hw : h.wf) (s : ByteArray) (x n : Int) (w W : World) (k4 : Row W q 27 (hopC h)) (k5 : Row W q5 9 #[.string s]) (k6 : Row W q6 28 #[.int .i64 x]) (hbW : Below w.heap.size w W) (hq : w.heap.size ≤ q) (hq5 : w.heap.size ≤ q5) (hq6 : w.heap.size ≤ q6) :
    CallsD Tryz.prog 30 #[.pointer (some ⟨q6, 0, none⟩), .func (.func 31) #[] #[.pointer (some ⟨q, 0, none⟩), .pointer (some ⟨q5, 0, none⟩)]] (.panicking (gaveUp n)) W fun e u' w' =>
      e = .returned (.tuple #[]) ∧ u' = .panicking ({ v := .iface 28 (.int .i64 n), recovered := true } :: []) ∧ Row w' q 27 (hopC noHop) ∧ w'.cell? ⟨q5, 0, none⟩ = some (.string ⟨#[]⟩) ∧ w'.cell? ⟨q6, 0, none⟩ = some (.int .i64 n) ∧ Below w.heap.size w w' := by
  have hne := ne_rows k4 k6 (by decide)
  have hne5 := ne_rows k5 k6 (by decide)
  refine (rcaught_panicking q6 31 #[.pointer (some ⟨q, 0, none⟩), .pointer (some ⟨q5, 0, none⟩)] n x [] W k6 (fun X X' => Row X' q 27 (hopC noHop) ∧ Row X' q5 9 #[.string ⟨#[]⟩] ∧ Same (fun k => k < X.heap.size ∧ k ≠ q ∧ k ≠ q5) X X') (enters_of Tryz.func31 (by kernel_rfl) rfl _) (fun X hX hg => (peelFn_any q q5 h hw s X (k4.grown hg (fun e => hne (Option.some.inj e))) (k5.grown hg (fun e => hne5 (Option.some.inj e)))))).mono ?_
  rintro e u' w' ⟨rfl, rfl, X, hk, hg, hp, hp5, hs2⟩
  have hb1 : Below w.heap.size w X := hbW.grown hg hbW.size (fun j e => by cases e; exact hq6)
  exact ⟨rfl, rfl, hp, (hp5.cell 0).trans rfl, ((hk.same hs2 ⟨hk.lt, fun e => hne e.symm, fun e => hne5 e.symm⟩).cell 0).trans rfl, hb1.trans (hs2.below_of fun k h => ⟨Nat.lt_of_lt_of_le h hb1.size, by omega, by omega⟩)⟩
set_option maxRecDepth 100000 in
theorem peel_short (key : List UInt8) (hk : key.length = 32) (s : ByteArray) (hs : s.size < 32 ∨ 512 < s.size) (w : World) : Calls Tryz.prog 12 #[.agg (hC key), .string s] w fun e w' => e = .returned (.tuple #[.agg (hopC noHop), .string ⟨#[]⟩, .int .i64 350]) ∧ Below w.heap.size w w' := by
  refine Calls.post fun Φ HΦ => ?_
  have hin := fun W => rin_int (s.size : Int) 32 512 W
  rw [show (decide ((32 : Int) ≤ (s.size : Int)) && decide ((s.size : Int) ≤ 512)) = false by
    rcases hs with h | h
    · rw [decide_eq_false (by omega), Bool.false_and]
    · rw [decide_eq_false (p := (s.size : Int) ≤ 512) (by omega), Bool.and_false]] at hin
  have hmf : ∀ (fn : Fn) (first cap : Array Value) (w : World), (Instr.makeFunc fn first cap).run Tryz.prog w = .ok (.func fn first cap) w := fun _ _ _ _ => rfl
  have k4 := ((Row.new (w.alloc (.cells (hC key) 25)) 27 (hopC noHop)).alloc (.cells #[.string ⟨#[]⟩] 9)).alloc (.cells #[.int .i64 0] 28)
  have k5 := (Row.new ((w.alloc (.cells (hC key) 25)).alloc (.cells (hopC noHop) 27)) 9 #[.string ⟨#[]⟩]).alloc (.cells #[.int .i64 0] 28)
  have k6 := Row.new (((w.alloc (.cells (hC key) 25)).alloc (.cells (hopC noHop) 27)).alloc (.cells #[.string ⟨#[]⟩] 9)) 28 #[.int .i64 0]
  have hb : Below w.heap.size w ((((w.alloc (.cells (hC key) 25)).alloc (.cells (hopC noHop) 27)).alloc (.cells #[.string ⟨#[]⟩] 9)).alloc (.cells #[.int .i64 0] 28)) :=
    ((((Below.refl w.heap.size w).alloc (Nat.le_refl _) _).alloc (by simp) _).alloc (by simp; omega) _).alloc (by simp; omega) _
  have hbx := boxH key hk w
  simp only [World.size_alloc] at k4 k5 k6
  clear hs hk
  go_enter_defers Tryz.func12, Tryz.ntmps12
  go_upto_region 1 with (first
    | (guard_target =~ wpList _ _ _ (_ :: _) _ _; refine wpList_box rfl 25 (.tmp 0) rfl (.agg (hC key)) rfl hbx ?_)
    | (with_reducible refine wpList_alloc rfl 27 rfl (allocHop _) ?_)
    | fail)
  try simp only [World.size_alloc]
  generalize (((w.alloc (.cells (hC key) 25)).alloc (.cells (hopC noHop) 27)).alloc (.cells #[.string ⟨#[]⟩] 9)).alloc (.cells #[.int .i64 0] 28) = w1 at *
  clear hbx
  go_wp2_with (first
    | (go_at_call 24; refine (hin _).mono ?_; rintro e w5 ⟨rfl, rfl⟩)
    | (go_at_call 32; refine (rmust_no _ _).mono ?_; rintro e w5 ⟨rfl, rfl⟩)
    | fail)
  refine leaves_cons (f := 30) (args := #[.pointer (some ⟨w.heap.size + 1 + 1 + 1, 0, none⟩), .func (.func 31) #[] #[.pointer (some ⟨w.heap.size + 1, 0, none⟩), .pointer (some ⟨w.heap.size + 1 + 1, 0, none⟩)]]) (by simp) (by simp [go_sem]) ?_
  refine (peel_caught _ _ _ _ noHop_wf _ _ _ w _ k4 k5 k6 hb (by omega) (by omega) (by omega)).mono ?_
  rintro e u' w'' ⟨rfl, rfl, kQ, c5, c6, hbG⟩
  show ∃ v, _ ∧ _
  exact ⟨_, results_ccc rfl _ _ _ _ _ 27 (hopC noHop) _ _ _ rfl rfl rfl kQ Tryz.underlying27 rfl (by rw [hopC_size noHop_wf]; exact infoHop) (loadStrVar c5) (loadErr c6), HΦ.out _ _ ⟨rfl, hbG⟩⟩
set_option maxRecDepth 100000 in
theorem wrap_nil (A : Option Addr) (c : Nat) (w : World) : Calls Tryz.prog 9 #[.slice A 0 c] w fun e w' => e = .returned (.tuple #[.string ⟨#[]⟩, .int .i64 2]) ∧ w' = w := by
  refine Calls.post fun Φ HΦ => ?_
  have hin := fun W => rin_int 0 1 6 W
  go_enter Tryz.func9, Tryz.ntmps9
  go_wp2_with fail
  go_loopw [12] (fun t wr => t = .int .i64 0 ∧ wr = w) (fun t _ => 0)
  case atStart => exact ⟨rfl, rfl⟩
  case round =>
    obtain ⟨rfl, rfl⟩ := hrel
    go_wp2_with (first
      | (go_at_call 24; refine (hin _).mono ?_; rintro e w5 ⟨rfl, rfl⟩)
      | fail)
    exact HΦ.out _ _ ⟨rfl, rfl⟩
end Go.Proofs.YtloiaaolnfimgaaGreat
