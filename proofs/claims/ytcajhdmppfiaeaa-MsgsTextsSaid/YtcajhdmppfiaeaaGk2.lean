/- Walks, msgs: parts of kinds. -/
import Derived.Test.YtcajhdmppfiaeaaGc
import Derived.Test.YtcajhdmppfiaeaaGk1
set_option linter.unusedVariables false
set_option linter.unusedSimpArgs false
namespace Go.Proofs.Ytcajhdmppfiaeaa
open Go.RowKit Ms
section
variable {P : Program} {w : World} {ops : Array Oper} {rest : List Oper} {o : Oper} {a : Act} {Q : Exit → Act → World → Prop}
theorem wpList_callV (hgd : o.guard = none) {f : FuncId} {bound all : Array Value} (x : Operand) (xs : Array Operand) (ts : Array TypeId) {vs : Array Value} (ho : o.op = .call { callee := .value x, args := xs, argTypes := ts }) (hf : a.eval x = .func (.func f) #[] bound) (hv : xs.map a.eval = vs) (eg : ∀ args w, (callFunc f args).run P w = .ok (.enter f args) w) (hall : vs ++ bound = all)
    (h : Calls P f all w fun e w' => (∃ v, e = .returned v ∧ wpList P ops Q rest (a.put o.dst v) w') ∨ (∃ p, e = .panicked p ∧ Q (.panic p) a w')) : wpList P ops Q (o :: rest) a w := by
  subst hall
  refine wpList_plain hgd fun K hK => ?_
  have hr : ((do let d ← resolve a.eval { callee := .value x, args := xs, argTypes := ts } o.type; invoke d.target d.args) : Sem Next).run P w = .ok (.enter f (vs ++ bound)) w := by
    simp only [resolve, hf, hv]
    simp [invoke, go_sem, eg]
  unfold Oper.wp execOp
  simp only [ho]
  rw [hr]
  refine h.mono fun e W' h => ?_
  rcases h with ⟨v, he, hq⟩ | ⟨p, he, hq⟩
  · subst he; exact hK _ _ hq
  · subst he; exact hq
end
def nFn (j : Nat) : FuncId := match j with
  | 1 => 29
  | 2 => 30
  | 3 => 31
  | 4 => 32
  | 5 => 34
  | 6 => 13
  | 7 => 14
  | 8 => 15
  | 9 => 16
  | 10 => 38
  | _ => 17
def hFn (j : Nat) : FuncId := match j with
  | 1 => 33
  | 3 => 19
  | 4 => 20
  | 5 => 35
  | 6 => 23
  | 7 => 21
  | _ => 22
def okH (j : Nat) : Bool := decide (1 ≤ j) && decide (j ≤ 8) && decide (j ≠ 2)
theorem nfn_1 (g : Nat) (w : World) : Calls Try.prog 29 #[.pointer (some ⟨g, 0, none⟩)] w fun e w' => e = .returned (.pointer (some ⟨g, offN 1, none⟩)) ∧ w = w' := by
  go_enter Try.func29, Try.ntmps29
  go_wp2
  go_ret
  exact ⟨rfl, rfl⟩
theorem nfn_2 (g : Nat) (w : World) : Calls Try.prog 30 #[.pointer (some ⟨g, 0, none⟩)] w fun e w' => e = .returned (.pointer (some ⟨g, offN 2, none⟩)) ∧ w = w' := by
  go_enter Try.func30, Try.ntmps30
  go_wp2
  go_ret
  exact ⟨rfl, rfl⟩
theorem nfn_3 (g : Nat) (w : World) : Calls Try.prog 31 #[.pointer (some ⟨g, 0, none⟩)] w fun e w' => e = .returned (.pointer (some ⟨g, offN 3, none⟩)) ∧ w = w' := by
  go_enter Try.func31, Try.ntmps31
  go_wp2
  go_ret
  exact ⟨rfl, rfl⟩
theorem nfn_4 (g : Nat) (w : World) : Calls Try.prog 32 #[.pointer (some ⟨g, 0, none⟩)] w fun e w' => e = .returned (.pointer (some ⟨g, offN 4, none⟩)) ∧ w = w' := by
  go_enter Try.func32, Try.ntmps32
  go_wp2
  go_ret
  exact ⟨rfl, rfl⟩
theorem nfn_5 (g : Nat) (w : World) : Calls Try.prog 34 #[.pointer (some ⟨g, 0, none⟩)] w fun e w' => e = .returned (.pointer (some ⟨g, offN 5, none⟩)) ∧ w = w' := by
  go_enter Try.func34, Try.ntmps34
  go_wp2
  go_ret
  exact ⟨rfl, rfl⟩
theorem nfn_6 (g : Nat) (w : World) : Calls Try.prog 13 #[.pointer (some ⟨g, 0, none⟩)] w fun e w' => e = .returned (.pointer (some ⟨g, offN 6, none⟩)) ∧ w = w' := by
  go_enter Try.func13, Try.ntmps13
  go_wp2
  go_ret
  exact ⟨rfl, rfl⟩
theorem nfn_7 (g : Nat) (w : World) : Calls Try.prog 14 #[.pointer (some ⟨g, 0, none⟩)] w fun e w' => e = .returned (.pointer (some ⟨g, offN 7, none⟩)) ∧ w = w' := by
  go_enter Try.func14, Try.ntmps14
  go_wp2
  go_ret
  exact ⟨rfl, rfl⟩
theorem nfn_8 (g : Nat) (w : World) : Calls Try.prog 15 #[.pointer (some ⟨g, 0, none⟩)] w fun e w' => e = .returned (.pointer (some ⟨g, offN 8, none⟩)) ∧ w = w' := by
  go_enter Try.func15, Try.ntmps15
  go_wp2
  go_ret
  exact ⟨rfl, rfl⟩
theorem nfn_9 (g : Nat) (w : World) : Calls Try.prog 16 #[.pointer (some ⟨g, 0, none⟩)] w fun e w' => e = .returned (.pointer (some ⟨g, offN 9, none⟩)) ∧ w = w' := by
  go_enter Try.func16, Try.ntmps16
  go_wp2
  go_ret
  exact ⟨rfl, rfl⟩
theorem nfn_10 (g : Nat) (w : World) : Calls Try.prog 38 #[.pointer (some ⟨g, 0, none⟩)] w fun e w' => e = .returned (.pointer (some ⟨g, offN 10, none⟩)) ∧ w = w' := by
  go_enter Try.func38, Try.ntmps38
  go_wp2
  go_ret
  exact ⟨rfl, rfl⟩
theorem nfn_11 (g : Nat) (w : World) : Calls Try.prog 17 #[.pointer (some ⟨g, 0, none⟩)] w fun e w' => e = .returned (.pointer (some ⟨g, offN 11, none⟩)) ∧ w = w' := by
  go_enter Try.func17, Try.ntmps17
  go_wp2
  go_ret
  exact ⟨rfl, rfl⟩
theorem hfn_1 (g : Nat) (w : World) : Calls Try.prog 33 #[.pointer (some ⟨g, 0, none⟩)] w fun e w' => e = .returned (.pointer (some ⟨g, offH 1, none⟩)) ∧ w = w' := by
  go_enter Try.func33, Try.ntmps33
  go_wp2
  go_ret
  exact ⟨rfl, rfl⟩
theorem hfn_3 (g : Nat) (w : World) : Calls Try.prog 19 #[.pointer (some ⟨g, 0, none⟩)] w fun e w' => e = .returned (.pointer (some ⟨g, offH 3, none⟩)) ∧ w = w' := by
  go_enter Try.func19, Try.ntmps19
  go_wp2
  go_ret
  exact ⟨rfl, rfl⟩
theorem hfn_4 (g : Nat) (w : World) : Calls Try.prog 20 #[.pointer (some ⟨g, 0, none⟩)] w fun e w' => e = .returned (.pointer (some ⟨g, offH 4, none⟩)) ∧ w = w' := by
  go_enter Try.func20, Try.ntmps20
  go_wp2
  go_ret
  exact ⟨rfl, rfl⟩
theorem hfn_5 (g : Nat) (w : World) : Calls Try.prog 35 #[.pointer (some ⟨g, 0, none⟩)] w fun e w' => e = .returned (.pointer (some ⟨g, offH 5, none⟩)) ∧ w = w' := by
  go_enter Try.func35, Try.ntmps35
  go_wp2
  go_ret
  exact ⟨rfl, rfl⟩
theorem hfn_6 (g : Nat) (w : World) : Calls Try.prog 23 #[.pointer (some ⟨g, 0, none⟩)] w fun e w' => e = .returned (.pointer (some ⟨g, offH 6, none⟩)) ∧ w = w' := by
  go_enter Try.func23, Try.ntmps23
  go_wp2
  go_ret
  exact ⟨rfl, rfl⟩
theorem hfn_7 (g : Nat) (w : World) : Calls Try.prog 21 #[.pointer (some ⟨g, 0, none⟩)] w fun e w' => e = .returned (.pointer (some ⟨g, offH 7, none⟩)) ∧ w = w' := by
  go_enter Try.func21, Try.ntmps21
  go_wp2
  go_ret
  exact ⟨rfl, rfl⟩
theorem hfn_8 (g : Nat) (w : World) : Calls Try.prog 22 #[.pointer (some ⟨g, 0, none⟩)] w fun e w' => e = .returned (.pointer (some ⟨g, offH 8, none⟩)) ∧ w = w' := by
  go_enter Try.func22, Try.ntmps22
  go_wp2
  go_ret
  exact ⟨rfl, rfl⟩
theorem nfn_any (g j : Nat) (w : World) (h1 : 1 ≤ j) (h2 : j ≤ 11) : Calls Try.prog (nFn j) #[.pointer (some ⟨g, 0, none⟩)] w fun e w' => e = .returned (.pointer (some ⟨g, offN j, none⟩)) ∧ w = w' := by
  rcases j with _ | _ | _ | _ | _ | _ | _ | _ | _ | _ | _ | _ | j
  · omega
  · exact nfn_1 g w
  · exact nfn_2 g w
  · exact nfn_3 g w
  · exact nfn_4 g w
  · exact nfn_5 g w
  · exact nfn_6 g w
  · exact nfn_7 g w
  · exact nfn_8 g w
  · exact nfn_9 g w
  · exact nfn_10 g w
  · exact nfn_11 g w
  · omega
theorem hfn_any (g j : Nat) (w : World) (h : okH j = true) : Calls Try.prog (hFn j) #[.pointer (some ⟨g, 0, none⟩)] w fun e w' => e = .returned (.pointer (some ⟨g, offH j, none⟩)) ∧ w = w' := by
  rcases j with _ | _ | _ | _ | _ | _ | _ | _ | _ | j
  · simp [okH] at h
  · exact hfn_1 g w
  · simp [okH] at h
  · exact hfn_3 g w
  · exact hfn_4 g w
  · exact hfn_5 g w
  · exact hfn_6 g w
  · exact hfn_7 g w
  · exact hfn_8 g w
  · simp [okH] at h
theorem nfn_enters (j : Nat) (args : Array Value) (w : World) : (callFunc (nFn j) args).run Try.prog w = .ok (.enter (nFn j) args) w := by
  unfold nFn
  split
  · exact enters_of Try.func29 (by kernel_rfl) rfl _ _
  · exact enters_of Try.func30 (by kernel_rfl) rfl _ _
  · exact enters_of Try.func31 (by kernel_rfl) rfl _ _
  · exact enters_of Try.func32 (by kernel_rfl) rfl _ _
  · exact enters_of Try.func34 (by kernel_rfl) rfl _ _
  · exact enters_of Try.func13 (by kernel_rfl) rfl _ _
  · exact enters_of Try.func14 (by kernel_rfl) rfl _ _
  · exact enters_of Try.func15 (by kernel_rfl) rfl _ _
  · exact enters_of Try.func16 (by kernel_rfl) rfl _ _
  · exact enters_of Try.func38 (by kernel_rfl) rfl _ _
  · exact enters_of Try.func17 (by kernel_rfl) rfl _ _
theorem hfn_enters (j : Nat) (args : Array Value) (w : World) : (callFunc (hFn j) args).run Try.prog w = .ok (.enter (hFn j) args) w := by
  unfold hFn
  split
  · exact enters_of Try.func33 (by kernel_rfl) rfl _ _
  · exact enters_of Try.func19 (by kernel_rfl) rfl _ _
  · exact enters_of Try.func20 (by kernel_rfl) rfl _ _
  · exact enters_of Try.func35 (by kernel_rfl) rfl _ _
  · exact enters_of Try.func23 (by kernel_rfl) rfl _ _
  · exact enters_of Try.func21 (by kernel_rfl) rfl _ _
  · exact enters_of Try.func22 (by kernel_rfl) rfl _ _
theorem okH_lt {j : Nat} (h : okH j = true) : j < 9 := by
  simp [okH] at h
  omega
def partN (bm bt : Nat) : Array Value := #[.func (.func 52) #[] #[.pointer (some ⟨bt, 0, none⟩)], .func (.func 53) #[] #[.pointer (some ⟨bm, 0, none⟩), .pointer (some ⟨bt, 0, none⟩)], .func (.func 54) #[] #[.pointer (some ⟨bt, 0, none⟩)]]
def partH (bt : Nat) : Array Value := #[.func (.func 55) #[] #[.pointer (some ⟨bt, 0, none⟩)], .func (.func 57) #[] #[.pointer (some ⟨bt, 0, none⟩)], .func (.func 59) #[] #[.pointer (some ⟨bt, 0, none⟩)]]
def partR : Array Value := #[.func (.func 61) #[] #[], .func (.func 63) #[] #[], .func (.func 65) #[] #[]]
/-- Three cells hold a part. -/
def PartC (W : World) (cs : Array Value) : Fld → Prop
  | .num j m => 1 ≤ j ∧ j ≤ 11 ∧ ∃ bm bt, cs = partN bm bt ∧ Row W bm 2 #[.int .i64 m] ∧ Row W bt 59 #[.func (.func (nFn j)) #[] #[]]
  | .hash j => okH j = true ∧ ∃ bt, cs = partH bt ∧ Row W bt 62 #[.func (.func (hFn j)) #[] #[]]
  | .route => cs = partR
/-- Rows of the kinds that parts are made of stay. -/
def KT (W W' : World) : Prop := ∀ b T cs, (T = 2 ∨ T = 59 ∨ T = 62 ∨ T = 55) → Row W b T cs → Row W' b T cs
theorem KT.refl (W : World) : KT W W := fun _ _ _ _ h => h
theorem KT.trans {a b c : World} (h : KT a b) (k : KT b c) : KT a c := fun _ _ _ ht hr => k _ _ _ ht (h _ _ _ ht hr)
theorem Row.type {w : World} {b : Nat} {T T' : TypeId} {cs cs' : Array Value} (h : Row w b T cs) (h' : Row w b T' cs') : T = T' := by
  have e : (some (Obj.cells cs T (0, 0))) = some (Obj.cells cs' T' (0, 0)) := (show w.heap[b]? = some (Obj.cells cs T (0, 0)) from h).symm.trans (show w.heap[b]? = some (Obj.cells cs' T' (0, 0)) from h')
  injection e with e
  injection e
theorem PartC.kt {W W' : World} {cs : Array Value} {f : Fld} (h : PartC W cs f) (k : KT W W') : PartC W' cs f := by
  cases f with
  | num j m => obtain ⟨h1, h2, bm, bt, e, r1, r2⟩ := h; exact ⟨h1, h2, bm, bt, e, k _ _ _ (.inl rfl) r1, k _ _ _ (.inr (.inl rfl)) r2⟩
  | hash j => obtain ⟨h1, bt, e, r1⟩ := h; exact ⟨h1, bt, e, k _ _ _ (.inr (.inr (.inl rfl))) r1⟩
  | route => exact h
theorem PartC.m {W W' : World} {cs : Array Value} {f : Fld} (h : PartC W cs f) (k : LaterM W W') : PartC W' cs f := by
  cases f with
  | num j m => obtain ⟨h1, h2, bm, bt, e, r1, r2⟩ := h; exact ⟨h1, h2, bm, bt, e, r1.laterM k, r2.laterM k⟩
  | hash j => obtain ⟨h1, bt, e, r1⟩ := h; exact ⟨h1, bt, e, r1.laterM k⟩
  | route => exact h
theorem PartC.size {W : World} {cs : Array Value} {f : Fld} (h : PartC W cs f) : ∃ c0 c1 c2, cs = #[c0, c1, c2] := by
  cases f with
  | num j m => obtain ⟨h1, h2, bm, bt, e, r1, r2⟩ := h; exact ⟨_, _, _, e⟩
  | hash j => obtain ⟨h1, bt, e, r1⟩ := h; exact ⟨_, _, _, e⟩
  | route => exact ⟨_, _, _, h⟩
def PrM.part (f : Fld) : PrM := ⟨fun v W => ∃ cs, v = .agg cs ∧ PartC W cs f, fun _ _ _ ⟨cs, e, h⟩ k => ⟨cs, e, h.m k⟩⟩
/-- A slice's cells hold parts. -/
def RdP (W : World) (A : Option Addr) (fs : List Fld) : Prop := fs ≠ [] → ∃ b xs, A = some ⟨b, 0, none⟩ ∧ Row W b 55 xs ∧ ∀ i (h : i < fs.length), ∃ cs, PartC W cs fs[i] ∧ ∀ j v, cs[j]? = some v → xs[i * 3 + j]? = some v
theorem rangeAt_m {W W' : World} {b o : Nat} {cs : List Value} (h : W.rangeAt b o cs) (k : LaterM W W') : W'.rangeAt b o cs := fun j v e => k.cell (h j v e)
theorem RdP.m {W W' : World} {A : Option Addr} {fs : List Fld} (h : RdP W A fs) (k : LaterM W W') : RdP W' A fs := fun hne => by
  obtain ⟨b, xs, e, hr, hc⟩ := h hne
  exact ⟨b, xs, e, hr.laterM k, fun i hi => by obtain ⟨cs, h1, h2⟩ := hc i hi; exact ⟨cs, h1.m k, h2⟩⟩
theorem RdP.kt {W W' : World} {A : Option Addr} {fs : List Fld} (h : RdP W A fs) (k : KT W W') : RdP W' A fs := fun hne => by
  obtain ⟨b, xs, e, hr, hc⟩ := h hne
  exact ⟨b, xs, e, k _ _ _ (.inr (.inr (.inr rfl))) hr, fun i hi => by obtain ⟨cs, h1, h2⟩ := hc i hi; exact ⟨cs, h1.kt k, h2⟩⟩
def PrM.parts (fs : List Fld) : PrM := ⟨fun v W => ∃ b, v = .slice (some ⟨b, 0, none⟩) fs.length fs.length ∧ RdP W (some ⟨b, 0, none⟩) fs, fun _ _ _ ⟨b, e, h⟩ k => ⟨b, e, h.m k⟩⟩
/-- A kind's value. -/
def KindV (W : World) (name : ByteArray) (F : FuncId) (fs : List Fld) (v : Value) : Prop := ∃ A, v = .agg #[.string name, .func (.func F) #[] #[], .slice A fs.length fs.length] ∧ RdP W A fs
theorem KindV.m {W W' : World} {name : ByteArray} {F : FuncId} {fs : List Fld} {v : Value} (h : KindV W name F fs v) (k : LaterM W W') : KindV W' name F fs v := by
  obtain ⟨A, e, h⟩ := h
  exact ⟨A, e, h.m k⟩
def PrM.kind (name : ByteArray) (F : FuncId) (fs : List Fld) : PrM := ⟨fun v W => KindV W name F fs v, fun _ _ _ h k => h.m k⟩
theorem results_cell1 {P : Program} {fn : Func} {p : Tmp} {ty : TypeId} (h : fn.results = #[.cell p ty]) (tmps : Array Value) (w : World) (g : Nat) (t : TypeId) (cs : Array Value) (d : TypeDesc)
    (hp : tmps.getD p undef = .pointer (some ⟨g, 0, none⟩)) (hg : Row w g t cs)
    (hu : P.underlying ty = some d) (hd : (match d with | .struct _ | .array _ _ => true | _ => false) = true) (hi : (P.info? ty).map (·.size) = some cs.size) :
    (results fn tmps).run P w = .ok (.agg cs) w := by
  have hp' : tmps[p]?.getD undef = .pointer (some ⟨g, 0, none⟩) := by simpa using hp
  simp [results, h, hp', asAddr, run_loadVar_row w g t ty cs (0, 0) d hg hu hd hi]
theorem infoPart : (Try.prog.info? 55).map (·.size) = some 3 := by kernel_rfl
theorem infoKind : (Try.prog.info? 32).map (·.size) = some 3 := by kernel_rfl
theorem allocPart (w : World) : (Instr.alloc 55 true (.tuple #[])).run Try.prog w = .ok (.pointer (some ⟨w.heap.size, 0, none⟩)) (w.alloc (.cells #[.nilFunc, .nilFunc, .nilFunc] 55)) := by kernel_rfl
theorem allocKind (w : World) : (Instr.alloc 32 true (.tuple #[])).run Try.prog w = .ok (.pointer (some ⟨w.heap.size, 0, none⟩)) (w.alloc (.cells #[.string ⟨#[]⟩, .nilFunc, .slice none 0 0] 32)) := by kernel_rfl
end Go.Proofs.Ytcajhdmppfiaeaa
