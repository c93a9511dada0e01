/- Walks, msgs: parts of kinds. -/
import Derived.Test.YtcajhdmppfiaeaaGreatGc
import Derived.Test.YtcajhdmppfiaeaaGreatGk1
set_option linter.unusedVariables false
set_option linter.unusedSimpArgs false
namespace Go.Proofs.YtcajhdmppfiaeaaGreat
open Go.RowKit Ms
section
variable {P : Program} {w : World} {ops : Array Oper} {rest : List Oper} {o : Oper} {a : Act} {Q : Exit → Act → World → Prop}
theorem wpList_callV (hgd : o.guard = none) {f : FuncId} {bound all : Array Value} (x : Operand) (xs : Array Operand) (ts : Array TypeId) {vs : Array Value} (ho : o.op = .call { callee := .value x, args := xs, argTypes := ts }) (hf : a.eval x = .func (.func f) #[] bound) (hv : xs.map a.eval = vs) (eg : ∀ args w, (callFunc f args).run P w = .ok (.enter f args) w) (hall : vs ++ bound = all)
    (h : Calls P f all w fun e w' => (∃ v, e = .returned v ∧ wpList P ops Q rest (a.put o.dst v) w') ∨ (∃ p, e = .panicked p ∧ Q (.panic p) a w')) : wpList P ops Q (o :: rest) a w := by
  subst hall
  refine wpList_plain hgd fun K hK => ?_
  have hr : ((do let d ← resolve a.eval { callee := .value x, args := xs, argTypes := ts } o.type; invoke d.target d.args) : Sem Next).run P w = .ok (.enter f (vs ++ bound)) w := by
    simp only [resolve, hf, hv]
    simp [invoke, go_sem, eg]
  unfold Oper.wp execOp
  simp only [ho]
  rw [hr]
  refine h.mono fun e W' h => ?_
  rcases h with ⟨v, he, hq⟩ | ⟨p, he, hq⟩
  · subst he; exact hK _ _ hq
  · subst he; exact hq
end
def nFn (j : Nat) : FuncId := match j with
  | 1 => 77
  | 2 => 78
  | 3 => 79
  | 4 => 80
  | 5 => 82
  | 6 => 62
  | 7 => 63
  | 8 => 64
  | 9 => 65
  | 10 => 86
  | _ => 66
def hFn (j : Nat) : FuncId := match j with
  | 1 => 81
  | 3 => 68
  | 4 => 69
  | 5 => 83
  | 6 => 72
  | 7 => 70
  | _ => 71
def okH (j : Nat) : Bool := decide (1 ≤ j) && decide (j ≤ 8) && decide (j ≠ 2)
theorem nfn_1 (g : Nat) (w : World) : Calls Tryz.prog 77 #[.pointer (some ⟨g, 0, none⟩)] w fun e w' => e = .returned (.pointer (some ⟨g, offN 1, none⟩)) ∧ w = w' := by
  go_enter Tryz.func77, Tryz.ntmps77
  go_wp2
  go_ret
  exact ⟨rfl, rfl⟩
theorem nfn_2 (g : Nat) (w : World) : Calls Tryz.prog 78 #[.pointer (some ⟨g, 0, none⟩)] w fun e w' => e = .returned (.pointer (some ⟨g, offN 2, none⟩)) ∧ w = w' := by
  go_enter Tryz.func78, Tryz.ntmps78
  go_wp2
  go_ret
  exact ⟨rfl, rfl⟩
theorem nfn_3 (g : Nat) (w : World) : Calls Tryz.prog 79 #[.pointer (some ⟨g, 0, none⟩)] w fun e w' => e = .returned (.pointer (some ⟨g, offN 3, none⟩)) ∧ w = w' := by
  go_enter Tryz.func79, Tryz.ntmps79
  go_wp2
  go_ret
  exact ⟨rfl, rfl⟩
theorem nfn_4 (g : Nat) (w : World) : Calls Tryz.prog 80 #[.pointer (some ⟨g, 0, none⟩)] w fun e w' => e = .returned (.pointer (some ⟨g, offN 4, none⟩)) ∧ w = w' := by
  go_enter Tryz.func80, Tryz.ntmps80
  go_wp2
  go_ret
  exact ⟨rfl, rfl⟩
theorem nfn_5 (g : Nat) (w : World) : Calls Tryz.prog 82 #[.pointer (some ⟨g, 0, none⟩)] w fun e w' => e = .returned (.pointer (some ⟨g, offN 5, none⟩)) ∧ w = w' := by
  go_enter Tryz.func82, Tryz.ntmps82
  go_wp2
  go_ret
  exact ⟨rfl, rfl⟩
theorem nfn_6 (g : Nat) (w : World) : Calls Tryz.prog 62 #[.pointer (some ⟨g, 0, none⟩)] w fun e w' => e = .returned (.pointer (some ⟨g, offN 6, none⟩)) ∧ w = w' := by
  go_enter Tryz.func62, Tryz.ntmps62
  go_wp2
  go_ret
  exact ⟨rfl, rfl⟩
theorem nfn_7 (g : Nat) (w : World) : Calls Tryz.prog 63 #[.pointer (some ⟨g, 0, none⟩)] w fun e w' => e = .returned (.pointer (some ⟨g, offN 7, none⟩)) ∧ w = w' := by
  go_enter Tryz.func63, Tryz.ntmps63
  go_wp2
  go_ret
  exact ⟨rfl, rfl⟩
theorem nfn_8 (g : Nat) (w : World) : Calls Tryz.prog 64 #[.pointer (some ⟨g, 0, none⟩)] w fun e w' => e = .returned (.pointer (some ⟨g, offN 8, none⟩)) ∧ w = w' := by
  go_enter Tryz.func64, Tryz.ntmps64
  go_wp2
  go_ret
  exact ⟨rfl, rfl⟩
theorem nfn_9 (g : Nat) (w : World) : Calls Tryz.prog 65 #[.pointer (some ⟨g, 0, none⟩)] w fun e w' => e = .returned (.pointer (some ⟨g, offN 9, none⟩)) ∧ w = w' := by
  go_enter Tryz.func65, Tryz.ntmps65
  go_wp2
  go_ret
  exact ⟨rfl, rfl⟩
theorem nfn_10 (g : Nat) (w : World) : Calls Tryz.prog 86 #[.pointer (some ⟨g, 0, none⟩)] w fun e w' => e = .returned (.pointer (some ⟨g, offN 10, none⟩)) ∧ w = w' := by
  go_enter Tryz.func86, Tryz.ntmps86
  go_wp2
  go_ret
  exact ⟨rfl, rfl⟩
theorem nfn_11 (g : Nat) (w : World) : Calls Tryz.prog 66 #[.pointer (some ⟨g, 0, none⟩)] w fun e w' => e = .returned (.pointer (some ⟨g, offN 11, none⟩)) ∧ w = w' := by
  go_enter Tryz.func66, Tryz.ntmps66
  go_wp2
  go_ret
  exact ⟨rfl, rfl⟩
theorem hfn_1 (g : Nat) (w : World) : Calls Tryz.prog 81 #[.pointer (some ⟨g, 0, none⟩)] w fun e w' => e = .returned (.pointer (some ⟨g, offH 1, none⟩)) ∧ w = w' := by
  go_enter Tryz.func81, Tryz.ntmps81
  go_wp2
  go_ret
  exact ⟨rfl, rfl⟩
theorem hfn_3 (g : Nat) (w : World) : Calls Tryz.prog 68 #[.pointer (some ⟨g, 0, none⟩)] w fun e w' => e = .returned (.pointer (some ⟨g, offH 3, none⟩)) ∧ w = w' := by
  go_enter Tryz.func68, Tryz.ntmps68
  go_wp2
  go_ret
  exact ⟨rfl, rfl⟩
theorem hfn_4 (g : Nat) (w : World) : Calls Tryz.prog 69 #[.pointer (some ⟨g, 0, none⟩)] w fun e w' => e = .returned (.pointer (some ⟨g, offH 4, none⟩)) ∧ w = w' := by
  go_enter Tryz.func69, Tryz.ntmps69
  go_wp2
  go_ret
  exact ⟨rfl, rfl⟩
theorem hfn_5 (g : Nat) (w : World) : Calls Tryz.prog 83 #[.pointer (some ⟨g, 0, none⟩)] w fun e w' => e = .returned (.pointer (some ⟨g, offH 5, none⟩)) ∧ w = w' := by
  go_enter Tryz.func83, Tryz.ntmps83
  go_wp2
  go_ret
  exact ⟨rfl, rfl⟩
theorem hfn_6 (g : Nat) (w : World) : Calls Tryz.prog 72 #[.pointer (some ⟨g, 0, none⟩)] w fun e w' => e = .returned (.pointer (some ⟨g, offH 6, none⟩)) ∧ w = w' := by
  go_enter Tryz.func72, Tryz.ntmps72
  go_wp2
  go_ret
  exact ⟨rfl, rfl⟩
theorem hfn_7 (g : Nat) (w : World) : Calls Tryz.prog 70 #[.pointer (some ⟨g, 0, none⟩)] w fun e w' => e = .returned (.pointer (some ⟨g, offH 7, none⟩)) ∧ w = w' := by
  go_enter Tryz.func70, Tryz.ntmps70
  go_wp2
  go_ret
  exact ⟨rfl, rfl⟩
theorem hfn_8 (g : Nat) (w : World) : Calls Tryz.prog 71 #[.pointer (some ⟨g, 0, none⟩)] w fun e w' => e = .returned (.pointer (some ⟨g, offH 8, none⟩)) ∧ w = w' := by
  go_enter Tryz.func71, Tryz.ntmps71
  go_wp2
  go_ret
  exact ⟨rfl, rfl⟩
theorem nfn_any (g j : Nat) (w : World) (h1 : 1 ≤ j) (h2 : j ≤ 11) : Calls Tryz.prog (nFn j) #[.pointer (some ⟨g, 0, none⟩)] w fun e w' => e = .returned (.pointer (some ⟨g, offN j, none⟩)) ∧ w = w' := by
  rcases j with _ | _ | _ | _ | _ | _ | _ | _ | _ | _ | _ | _ | j
  · omega
  · exact nfn_1 g w
  · exact nfn_2 g w
  · exact nfn_3 g w
  · exact nfn_4 g w
  · exact nfn_5 g w
  · exact nfn_6 g w
  · exact nfn_7 g w
  · exact nfn_8 g w
  · exact nfn_9 g w
  · exact nfn_10 g w
  · exact nfn_11 g w
  · omega
theorem hfn_any (g j : Nat) (w : World) (h : okH j = true) : Calls Tryz.prog (hFn j) #[.pointer (some ⟨g, 0, none⟩)] w fun e w' => e = .returned (.pointer (some ⟨g, offH j, none⟩)) ∧ w = w' := by
  rcases j with _ | _ | _ | _ | _ | _ | _ | _ | _ | j
  · simp [okH] at h
  · exact hfn_1 g w
  · simp [okH] at h
  · exact hfn_3 g w
  · exact hfn_4 g w
  · exact hfn_5 g w
  · exact hfn_6 g w
  · exact hfn_7 g w
  · exact hfn_8 g w
  · simp [okH] at h
theorem nfn_enters (j : Nat) (args : Array Value) (w : World) : (callFunc (nFn j) args).run Tryz.prog w = .ok (.enter (nFn j) args) w := by
  unfold nFn
  split
  · exact enters_of Tryz.func77 (by kernel_rfl) rfl _ _
  · exact enters_of Tryz.func78 (by kernel_rfl) rfl _ _
  · exact enters_of Tryz.func79 (by kernel_rfl) rfl _ _
  · exact enters_of Tryz.func80 (by kernel_rfl) rfl _ _
  · exact enters_of Tryz.func82 (by kernel_rfl) rfl _ _
  · exact enters_of Tryz.func62 (by kernel_rfl) rfl _ _
  · exact enters_of Tryz.func63 (by kernel_rfl) rfl _ _
  · exact enters_of Tryz.func64 (by kernel_rfl) rfl _ _
  · exact enters_of Tryz.func65 (by kernel_rfl) rfl _ _
  · exact enters_of Tryz.func86 (by kernel_rfl) rfl _ _
  · exact enters_of Tryz.func66 (by kernel_rfl) rfl _ _
theorem hfn_enters (j : Nat) (args : Array Value) (w : World) : (callFunc (hFn j) args).run Tryz.prog w = .ok (.enter (hFn j) args) w := by
  unfold hFn
  split
  · exact enters_of Tryz.func81 (by kernel_rfl) rfl _ _
  · exact enters_of Tryz.func68 (by kernel_rfl) rfl _ _
  · exact enters_of Tryz.func69 (by kernel_rfl) rfl _ _
  · exact enters_of Tryz.func83 (by kernel_rfl) rfl _ _
  · exact enters_of Tryz.func72 (by kernel_rfl) rfl _ _
  · exact enters_of Tryz.func70 (by kernel_rfl) rfl _ _
  · exact enters_of Tryz.func71 (by kernel_rfl) rfl _ _
theorem okH_lt {j : Nat} (h : okH j = true) : j < 9 := by
  simp [okH] at h
  omega
def partN (bm bt : Nat) : Array Value := #[.func (.func 113) #[] #[.pointer (some ⟨bt, 0, none⟩)], .func (.func 114) #[] #[.pointer (some ⟨bm, 0, none⟩), .pointer (some ⟨bt, 0, none⟩)], .func (.func 115) #[] #[.pointer (some ⟨bt, 0, none⟩)]]
def partH (bt : Nat) : Array Value := #[.func (.func 116) #[] #[.pointer (some ⟨bt, 0, none⟩)], .func (.func 118) #[] #[.pointer (some ⟨bt, 0, none⟩)], .func (.func 120) #[] #[.pointer (some ⟨bt, 0, none⟩)]]
def partR : Array Value := #[.func (.func 122) #[] #[], .func (.func 124) #[] #[], .func (.func 126) #[] #[]]
/-- Three cells hold a part. -/
def PartC (W : World) (cs : Array Value) : Fld → Prop
  | .num j m => 1 ≤ j ∧ j ≤ 11 ∧ ∃ bm bt, cs = partN bm bt ∧ Row W bm 2 #[.int .i64 m] ∧ Row W bt 128 #[.func (.func (nFn j)) #[] #[]]
  | .hash j => okH j = true ∧ ∃ bt, cs = partH bt ∧ Row W bt 131 #[.func (.func (hFn j)) #[] #[]]
  | .route => cs = partR
/-- Rows of the kinds that parts are made of stay. -/
def KT (W W' : World) : Prop := ∀ b T cs, (T = 2 ∨ T = 128 ∨ T = 131 ∨ T = 78) → Row W b T cs → Row W' b T cs
theorem KT.refl (W : World) : KT W W := fun _ _ _ _ h => h
theorem KT.trans {a b c : World} (h : KT a b) (k : KT b c) : KT a c := fun _ _ _ ht hr => k _ _ _ ht (h _ _ _ ht hr)
theorem Row.type {w : World} {b : Nat} {T T' : TypeId} {cs cs' : Array Value} (h : Row w b T cs) (h' : Row w b T' cs') : T = T' := by
  have e : (some (Obj.cells cs T (0, 0))) = some (Obj.cells cs' T' (0, 0)) := (show w.heap[b]? = some (Obj.cells cs T (0, 0)) from h).symm.trans (show w.heap[b]? = some (Obj.cells cs' T' (0, 0)) from h')
  injection e with e
  injection e
theorem PartC.kt {W W' : World} {cs : Array Value} {f : Fld} (h : PartC W cs f) (k : KT W W') : PartC W' cs f := by
  cases f with
  | num j m => obtain ⟨h1, h2, bm, bt, e, r1, r2⟩ := h; exact ⟨h1, h2, bm, bt, e, k _ _ _ (.inl rfl) r1, k _ _ _ (.inr (.inl rfl)) r2⟩
  | hash j => obtain ⟨h1, bt, e, r1⟩ := h; exact ⟨h1, bt, e, k _ _ _ (.inr (.inr (.inl rfl))) r1⟩
  | route => exact h
theorem PartC.m {W W' : World} {cs : Array Value} {f : Fld} (h : PartC W cs f) (k : LaterM W W') : PartC W' cs f := by
  cases f with
  | num j m => obtain ⟨h1, h2, bm, bt, e, r1, r2⟩ := h; exact ⟨h1, h2, bm, bt, e, r1.laterM k, r2.laterM k⟩
  | hash j => obtain ⟨h1, bt, e, r1⟩ := h; exact ⟨h1, bt, e, r1.laterM k⟩
  | route => exact h
theorem PartC.size {W : World} {cs : Array Value} {f : Fld} (h : PartC W cs f) : ∃ c0 c1 c2, cs = #[c0, c1, c2] := by
  cases f with
  | num j m => obtain ⟨h1, h2, bm, bt, e, r1, r2⟩ := h; exact ⟨_, _, _, e⟩
  | hash j => obtain ⟨h1, bt, e, r1⟩ := h; exact ⟨_, _, _, e⟩
  | route => exact ⟨_, _, _, h⟩
def PrM.part (f : Fld) : PrM := ⟨fun v W => ∃ cs, v = .agg cs ∧ PartC W cs f, fun _ _ _ ⟨cs, e, h⟩ k => ⟨cs, e, h.m k⟩⟩
/-- A slice's cells hold parts. -/
def RdP (W : World) (A : Option Addr) (fs : List Fld) : Prop := fs ≠ [] → ∃ b xs, A = some ⟨b, 0, none⟩ ∧ Row W b 78 xs ∧ ∀ i (h : i < fs.length), ∃ cs, PartC W cs fs[i] ∧ ∀ j v, cs[j]? = some v → xs[i * 3 + j]? = some v
theorem rangeAt_m {W W' : World} {b o : Nat} {cs : List Value} (h : W.rangeAt b o cs) (k : LaterM W W') : W'.rangeAt b o cs := fun j v e => k.cell (h j v e)
theorem RdP.m {W W' : World} {A : Option Addr} {fs : List Fld} (h : RdP W A fs) (k : LaterM W W') : RdP W' A fs := fun hne => by
  obtain ⟨b, xs, e, hr, hc⟩ := h hne
  exact ⟨b, xs, e, hr.laterM k, fun i hi => by obtain ⟨cs, h1, h2⟩ := hc i hi; exact ⟨cs, h1.m k, h2⟩⟩
theorem RdP.kt {W W' : World} {A : Option Addr} {fs : List Fld} (h : RdP W A fs) (k : KT W W') : RdP W' A fs := fun hne => by
  obtain ⟨b, xs, e, hr, hc⟩ := h hne
  exact ⟨b, xs, e, k _ _ _ (.inr (.inr (.inr rfl))) hr, fun i hi => by obtain ⟨cs, h1, h2⟩ := hc i hi; exact ⟨cs, h1.kt k, h2⟩⟩
def PrM.parts (fs : List Fld) : PrM := ⟨fun v W => ∃ b, v = .slice (some ⟨b, 0, none⟩) fs.length fs.length ∧ RdP W (some ⟨b, 0, none⟩) fs, fun _ _ _ ⟨b, e, h⟩ k => ⟨b, e, h.m k⟩⟩
/-- A kind's value. -/
def KindV (W : World) (name : ByteArray) (F : FuncId) (fs : List Fld) (v : Value) : Prop := ∃ A, v = .agg #[.string name, .func (.func F) #[] #[], .slice A fs.length fs.length] ∧ RdP W A fs
theorem KindV.m {W W' : World} {name : ByteArray} {F : FuncId} {fs : List Fld} {v : Value} (h : KindV W name F fs v) (k : LaterM W W') : KindV W' name F fs v := by
  obtain ⟨A, e, h⟩ := h
  exact ⟨A, e, h.m k⟩
def PrM.kind (name : ByteArray) (F : FuncId) (fs : List Fld) : PrM := ⟨fun v W => KindV W name F fs v, fun _ _ _ h k => h.m k⟩
theorem results_cell1 {P : Program} {fn : Func} {p : Tmp} {ty : TypeId} (h : fn.results = #[.cell p ty]) (tmps : Array Value) (w : World) (g : Nat) (t : TypeId) (cs : Array Value) (d : TypeDesc)
    (hp : tmps.getD p undef = .pointer (some ⟨g, 0, none⟩)) (hg : Row w g t cs)
    (hu : P.underlying ty = some d) (hd : (match d with | .struct _ | .array _ _ => true | _ => false) = true) (hi : (P.info? ty).map (·.size) = some cs.size) :
    (results fn tmps).run P w = .ok (.agg cs) w := by
  have hp' : tmps[p]?.getD undef = .pointer (some ⟨g, 0, none⟩) := by simpa using hp
  simp [results, h, hp', asAddr, run_loadVar_row w g t ty cs (0, 0) d hg hu hd hi]
theorem infoPart : (Tryz.prog.info? 78).map (·.size) = some 3 := by kernel_rfl
theorem infoKind : (Tryz.prog.info? 71).map (·.size) = some 3 := by kernel_rfl
theorem allocPart (w : World) : (Instr.alloc 78 true (.tuple #[])).run Tryz.prog w = .ok (.pointer (some ⟨w.heap.size, 0, none⟩)) (w.alloc (.cells #[.nilFunc, .nilFunc, .nilFunc] 78)) := by kernel_rfl
theorem allocKind (w : World) : (Instr.alloc 71 true (.tuple #[])).run Tryz.prog w = .ok (.pointer (some ⟨w.heap.size, 0, none⟩)) (w.alloc (.cells #[.string ⟨#[]⟩, .nilFunc, .slice none 0 0] 71)) := by kernel_rfl
end Go.Proofs.YtcajhdmppfiaeaaGreat
