/- Joined: Wr16, Wr17, Gs, Wr19, Wr18, Wr23, Wr24, Wr25, RangeW, Wr39, Wr40, Wr42, Wr46, Wr47. -/
import Derived.Test.YtcajhdmppfiaeaaGb3
import Derived.Deep.Grids
import Derived.Deep.Strs
set_option linter.unusedVariables false
set_option linter.unusedSimpArgs false
namespace Go.Proofs.Ytcajhdmppfiaeaa
open Go.RowKit
theorem Wr.many_cases (x : UInt8) : (Wr.many x = 0 ∧ x.toNat < 253) ∨ (Wr.many x = 2 ∧ x.toNat = 253) ∨ (Wr.many x = 4 ∧ x.toNat = 254) ∨ (Wr.many x = 8 ∧ x.toNat = 255) := by
  have h : ∀ n : Fin 256, (Wr.many (UInt8.ofNat n.val) = 0 ∧ (UInt8.ofNat n.val).toNat < 253) ∨ (Wr.many (UInt8.ofNat n.val) = 2 ∧ (UInt8.ofNat n.val).toNat = 253) ∨ (Wr.many (UInt8.ofNat n.val) = 4 ∧ (UInt8.ofNat n.val).toNat = 254) ∨ (Wr.many (UInt8.ofNat n.val) = 8 ∧ (UInt8.ofNat n.val).toNat = 255) := by decide +kernel
  have := h ⟨x.toNat, x.toNat_lt⟩
  simpa using this
end Go.Proofs.Ytcajhdmppfiaeaa
namespace Go.Proofs.Ytcajhdmppfiaeaa
open Go.RowKit
section
variable {P : Program} {Q : Exit → Act → World → Prop} {o : Oper} {a : Act} {W : World} {R : Value → World → Prop}
theorem op_buildR {t : TypeId} {parts : Array (Nat × Operand)} {vs : Array (Nat × Value)} {v : Value} (ho : o.op = .build t parts) (hp : (parts.map fun (i, x) => (i, a.eval x)) = vs) (hr : (Instr.build t vs).run P W = .ok v W) (h : R v W) : o.wp P a W (fun a' W' => ∃ v, a' = a.put o.dst v ∧ Later W W' ∧ R v W') Q := by
  refine op_value (v := v) (W' := W) ?_ (Later.refl _) h
  unfold execOp
  simp only [ho, hp, hr, Sem.run_bind, Sem.run_pure, Result.andThen_ok]
theorem op_boxR {t : TypeId} {x : Operand} {vx v : Value} {W' : World} (ho : o.op = .box t x) (hx : a.eval x = vx) (hr : (Instr.box t vx).run P W = .ok v W') (hL : Later W W') (h : R v W') : o.wp P a W (fun a' W' => ∃ v, a' = a.put o.dst v ∧ Later W W' ∧ R v W') Q := by
  refine op_value (v := v) (W' := W') ?_ hL h
  unfold execOp
  simp only [ho, hx, hr, Sem.run_bind, Sem.run_pure, Result.andThen_ok]
theorem last_assign {x : Operand} {vx : Value} (ho : o.op = .assign x) (hx : a.eval x = vx) (h : Q .normal (a.put o.dst vx) W) : LastOk P o a W Q :=
  ⟨op_assignK (K := fun a' W' => Q .normal a' W') ho (by rw [hx]; exact h)⟩
end
theorem Calls.post {P : Program} {f : FuncId} {args : Array Value} {w : World} {R : Ending → World → Prop} (h : ∀ Φ : Ending → World → Prop, Hid (∀ e w', R e w' → Φ e w') → Calls P f args w Φ) : Calls P f args w R := h R (Lib.hid fun _ _ h => h)
abbrev rfV (A : Option Addr) (n c : Nat) (bad : Bool) : Array Value := #[.slice A n c, .bool bad]
theorem results_cell_tmp2 {P : Program} {fn : Func} {p q q2 : Tmp} {ty : TypeId} (h : fn.results = #[.cell p ty, .tmp q, .tmp q2]) (tmps : Array Value) (w : World) (g : Nat) (t : TypeId) (cs : Array Value) (fr : Nat × Nat) (d : TypeDesc) (v v2 : Value)
    (hp : tmps.getD p undef = .pointer (some ⟨g, 0, none⟩)) (hq : tmps.getD q undef = v) (hq2 : tmps.getD q2 undef = v2) (hg : w.heap[g]? = some (.cells cs t fr))
    (hu : P.underlying ty = some d) (hd : (match d with | .struct _ | .array _ _ => true | _ => false) = true) (hi : (P.info? ty).map (·.size) = some cs.size) :
    (results fn tmps).run P w = .ok (.tuple #[.agg cs, v, v2]) w := by
  have hp' : tmps[p]?.getD undef = .pointer (some ⟨g, 0, none⟩) := by simpa using hp
  have hq' : tmps[q]?.getD undef = v := by simpa using hq
  have hq2' : tmps[q2]?.getD undef = v2 := by simpa using hq2
  simp [results, h, hp', hq', hq2', asAddr, run_loadVar_row w g t ty cs fr d hg hu hd hi]
/-- What the document's reader hands back. -/
def RefV (A : Option Addr) (l : List UInt8) (v : Value) (l' : List UInt8) (bad : Bool) : Prop := ∃ D c, v = .agg (rfV D l'.length c bad) ∧ l'.length ≤ c ∧ c ≤ 9223372036854775807 ∧ ∀ X, Rd X A l → Rd X D l'
end Go.Proofs.Ytcajhdmppfiaeaa
namespace Go.Proofs.Ytcajhdmppfiaeaa
open Go.RowKit Go.ChangeShapes Go.WideShapes Go.ChangeAt
theorem Rd.keep2 {p : Nat → Prop} {w w' : World} {A : Option Addr} {l : List UInt8} (h : Rd w A l) (hs : Same p w w') (hp : ∀ b o x, w.cell? ⟨b, o, none⟩ = some (byteV x) → p b) : Rd w' A l := h.same hs fun b o e hl => by
  obtain ⟨b', o', e', hc⟩ := h hl
  have e2 := e.symm.trans e'
  injection e2 with e2
  injection e2 with e3 e4
  subst e3
  exact hp _ _ _ (hc 0 (List.length_pos_iff.2 hl))
theorem IsRd.same {p : Nat → Prop} {w w' : World} {g : Nat} {l : List UInt8} {bad : Bool} (h : IsRd w g l bad) (hs : Same p w w') (hg : p g) (hp : ∀ b o x, w.cell? ⟨b, o, none⟩ = some (byteV x) → p b) : IsRd w' g l bad := by
  obtain ⟨A, c, h1, h2, h3, h4⟩ := h
  exact ⟨A, c, h1.same hs hg, h2, h3, h4.keep2 hs hp⟩
theorem IsRd.later {w w' : World} {g : Nat} {l : List UInt8} {bad : Bool} (h : IsRd w g l bad) (hL : Later w w') : IsRd w' g l bad := by
  obtain ⟨A, c, h1, h2, h3, h4⟩ := h
  exact ⟨A, c, h1.later hL, h2, h3, h4.later hL⟩
theorem IsRd.lt {w : World} {g : Nat} {l : List UInt8} {bad : Bool} (h : IsRd w g l bad) : g < w.heap.size := by
  obtain ⟨A, c, h1, h2, h3, h4⟩ := h
  exact h1.lt
theorem rf_no_byte {w : World} {q : Nat} {t : TypeId} {A : Option Addr} {n c : Nat} {bad : Bool} (hr : Row w q t (rfV A n c bad)) {b o : Nat} {x : UInt8} (hc : w.cell? ⟨b, o, none⟩ = some (byteV x)) : b ≠ q := fun e => by
  subst e
  rw [hr.cell] at hc
  rcases o with _ | _ | o <;> simp [rfV, byteV] at hc
theorem results_ask {P : Program} {fn : Func} {p q : Tmp} {ty : TypeId} (h : fn.results = #[.cell p ty, .tmp q]) {tmps : Array Value} {w : World} {g : Nat} {t : TypeId} {cs : Array Value} {d : TypeDesc} {v : Value}
    (hp : tmps.getD p undef = .pointer (some ⟨g, 0, none⟩)) (hq : tmps.getD q undef = v) (hg : Row w g t cs)
    (hu : P.underlying ty = some d) (hd : (match d with | .struct _ | .array _ _ => true | _ => false) = true) (hi : (P.info? ty).map (·.size) = some cs.size) :
    (results fn tmps).run P w = .ok (.tuple #[.agg cs, v]) w := results_cell_tmp h tmps w g t cs (0, 0) d v hp hq hg hu hd hi
section
variable {P : Program} {W : World}
theorem eqgI {op : BinOp} {t : TypeId} {x y : Operand} {k k' : IntKind} {i j : Int} : (eqGuard op t x y (.int k i) (.int k' j)).run P W = .ok () W := by cases op <;> rfl
theorem eqgB {op : BinOp} {t : TypeId} {x y : Operand} {i j : Bool} : (eqGuard op t x y (.bool i) (.bool j)).run P W = .ok () W := by cases op <;> rfl
theorem eqgS {op : BinOp} {t : TypeId} {x y : Operand} {i j : ByteArray} : (eqGuard op t x y (.string i) (.string j)).run P W = .ok () W := by cases op <;> rfl
theorem eqlI (t : TypeId) (k : IntKind) (i j : Int) : (binOp .eql t (.int k i) (.int k j)).run P W = .ok (.bool (i == j)) W := by go_simp
theorem neqI (t : TypeId) (k : IntKind) (i j : Int) : (binOp .neq t (.int k i) (.int k j)).run P W = .ok (.bool (i != j)) W := by go_simp
theorem eqlI_self (t : TypeId) (k : IntKind) (i : Int) : (binOp .eql t (.int k i) (.int k i)).run P W = .ok (.bool true) W := by rw [eqlI, beq_self_eq_true]
theorem eqlS_self (t : TypeId) (i : ByteArray) : (binOp .eql t (.string i) (.string i)).run P W = .ok (.bool true) W := by go_simp
theorem neqS_self (t : TypeId) (i : ByteArray) : (binOp .neq t (.string i) (.string i)).run P W = .ok (.bool false) W := by go_simp
end
theorem eqlB_self {W : World} (i : Bool) : (binOp .eql 4 (.bool i) (.bool i)).run Try.prog W = .ok (.bool true) W := by go_simp
theorem neqB_self {W : World} (i : Bool) : (binOp .neq 4 (.bool i) (.bool i)).run Try.prog W = .ok (.bool false) W := by go_simp
section
variable {w : World}
theorem rdV_of {A : Addr} {vs : List Value} (h : ∀ i (hi : i < vs.length), w.cell? (A.add i) = some vs[i]) : RdV w (some A) vs := fun hne => by
  have h0 : 0 < vs.length := List.length_pos_iff.2 hne
  obtain ⟨b, o, rfl⟩ : ∃ b o, A = ⟨b, o, none⟩ := ⟨_, _, addr_none (h 0 h0)⟩
  exact ⟨b, o, rfl, fun i hi => by have := h i hi; rwa [addr_add] at this⟩
end
end Go.Proofs.Ytcajhdmppfiaeaa
namespace Go.Proofs.Ytcajhdmppfiaeaa
open Go.RowKit
theorem run_slice_piece {P : Program} {t U : TypeId} {A : Option Addr} {n ca k m : Nat} (ht : P.underlying t = some (.slice U)) (hi : ByteInfo P U) (h1 : k ≤ m) (h2 : m ≤ ca) :
    ∃ D, (∀ w : World, (Instr.slice t (.slice A n ca) (some (.int .i64 (k : Int))) (some (.int .i64 (m : Int))) none).run P w = .ok (.slice D (m - k) (ca - k)) w) ∧ (∀ (W : World) (l : List UInt8), m ≤ l.length → Rd W A l → Rd W D ((l.drop k).take (m - k))) ∧ ∀ ad, D = some ad → ∃ ad', A = some ad' ∧ ad'.block = ad.block := by
  obtain ⟨i, hi0, hz, hs, hb⟩ := info_parts hi
  have he : P.elem t = U := by simp [Program.elem, ht]
  have ht' : P.underlying t = some (.slice (P.elem t)) := by rw [he]; exact ht
  refine ⟨if ca = k then A else A.map (·.add (k * 1)), fun w => ?_, fun W l hl hr => ?_, fun ad e => ?_⟩
  · rw [run_slice_lh w t A n ca ht' .i64 .i64 (k : Int) (m : Int) (by omega) (by omega) (by omega), he]
    simp [sizeOf, typeInfo, hi0, hs, sliced]
  · by_cases h : ca = k
    · rw [show m - k = 0 from by omega, List.take_zero]
      exact Rd.nil _ _
    · refine Rd.take ?_ _
      rw [if_neg h, Nat.mul_one]
      intro hne
      obtain ⟨b, o, e, hc⟩ := hr (by intro e; subst e; simp at hne)
      subst e
      refine ⟨b, o + k, by unfold Addr.add; simp, fun i hi' => ?_⟩
      rw [List.getElem_drop, Nat.add_assoc]
      exact hc (k + i) (by rw [List.length_drop] at hi'; omega)
  · split at e
    · exact ⟨ad, e, rfl⟩
    · rcases A with _ | x
      · cases e
      · refine ⟨x, rfl, ?_⟩
        have e2 : x.add (k * 1) = ad := Option.some.inj e
        rw [← e2]
        unfold Addr.add
        split <;> rfl
theorem results3 {P : Program} {fn : Func} {p q r : Tmp} (h : fn.results = #[.tmp p, .tmp q, .tmp r]) (tmps : Array Value) (w : World) {v1 v2 v3 : Value} (h1 : tmps.getD p undef = v1) (h2 : tmps.getD q undef = v2) (h3 : tmps.getD r undef = v3) :
    (results fn tmps).run P w = .ok (.tuple #[v1, v2, v3]) w := by
  have h1' : tmps[p]?.getD undef = v1 := by simpa using h1
  have h2' : tmps[q]?.getD undef = v2 := by simpa using h2
  have h3' : tmps[r]?.getD undef = v3 := by simpa using h3
  simp [results, h, h1', h2', h3']
def Wr.piece (l : List UInt8) : List UInt8 := (l.drop (Wr.first l).2.toNat).take (Wr.first l).1
/-- A frame split off bytes: what it frames, how many bytes it has, the error. -/
def Wr.splitR (l : List UInt8) : List UInt8 × Int × Int :=
  if (Wr.first l).2 = 0 then ([], 0, 0) else if (Wr.first l).2 < 0 ∨ (Wr.first l).1 < 4 ∨ 8196 < (Wr.first l).1 then ([], 0, 141)
  else if (l.length : Int) - (Wr.first l).2 < ((Wr.first l).1 : Int) then ([], 0, 0)
  else if openOk (Wr.piece l) then (openB (Wr.piece l), (Wr.first l).2 + ((Wr.first l).1 : Int), 0) else ([], 0, 130)
end Go.Proofs.Ytcajhdmppfiaeaa
namespace Go.Proofs.Ytcajhdmppfiaeaa
open Go.RowKit
theorem idxB0 {b o c : Nat} (W : World) : (Instr.indexAt 36 (.slice (some ⟨b, o, none⟩) 1 c) (.int .i64 0)).run Try.prog W = .ok (.pointer (some ⟨b, o, none⟩)) W := by
  go_simp
theorem loadByte {b o : Nat} {x : UInt8} {W : World} (hc : W.cell? ⟨b, o, none⟩ = some (byteV x)) : (Instr.loadAt 5 (.pointer (some ⟨b, o, none⟩))).run Try.prog W = .ok (byteV x) W := by
  go_simp
theorem grown_cell {w w' : World} {r b o : Nat} {v : Value} (hg : w.grownBy w' (some r)) (hne : b ≠ r) (hc : w.cell? ⟨b, o, none⟩ = some v) : w'.cell? ⟨b, o, none⟩ = some v :=
  (World.cell?_of_block (w := w) (a := ⟨b, o, none⟩) (hg.block b (block_lt_of_cell hc) (fun e => hne (Option.some.inj e)))).trans hc
end Go.Proofs.Ytcajhdmppfiaeaa
namespace Go.Proofs.Ytcajhdmppfiaeaa
open Go.RowKit
section
variable {P : Program} {ops : Array Oper} {rest : List Oper} {o : Oper} {a : Act} {w : World} {Q : Exit → Act → World → Prop}
theorem wpList_slice0 (hgd : o.guard = none) (T : TypeId) (x : Operand) (ho : o.op = .slice T x none none none) (vx : Value) (hx : a.eval x = vx) {v : Value} {w' : World} (hr : (Instr.sliceAt T vx none none none).run P w = .ok v w')
    (h : wpList P ops Q rest (a.put o.dst v) w') : wpList P ops Q (o :: rest) a w :=
  wpList_plain hgd fun _ hK => by
    unfold Oper.wp execOp
    simp only [ho, Sem.run_bind, Sem.run_pure, Result.andThen_ok, Option.map_none, hx, hr]
    exact hK _ _ h
theorem wpList_build (hgd : o.guard = none) (T : TypeId) (parts : Array (Nat × Operand)) (ho : o.op = .build T parts) (vs : Array (Nat × Value)) (hp : (parts.map fun (i, x) => (i, a.eval x)) = vs) {v : Value} {w' : World} (hr : (Instr.build T vs).run P w = .ok v w')
    (h : wpList P ops Q rest (a.put o.dst v) w') : wpList P ops Q (o :: rest) a w :=
  wpList_plain hgd fun _ hK => by
    unfold Oper.wp execOp
    simp only [ho, hp, Sem.run_bind, Sem.run_pure, Result.andThen_ok, hr]
    exact hK _ _ h
theorem results_cells2 {P : Program} {fn : Func} {p r q : Tmp} {ty ty2 : TypeId} (h : fn.results = #[.cell p ty, .cell r ty2, .tmp q]) {tmps : Array Value} {w : World} {g g2 : Nat} {t t2 : TypeId} {cs cs2 : Array Value} {d d2 : TypeDesc} {v : Value}
    (hp : tmps.getD p undef = .pointer (some ⟨g, 0, none⟩)) (hr : tmps.getD r undef = .pointer (some ⟨g2, 0, none⟩)) (hq : tmps.getD q undef = v) (hg : Row w g t cs) (hg2 : Row w g2 t2 cs2)
    (hu : P.underlying ty = some d) (hd : (match d with | .struct _ | .array _ _ => true | _ => false) = true) (hi : (P.info? ty).map (·.size) = some cs.size)
    (hu2 : P.underlying ty2 = some d2) (hd2 : (match d2 with | .struct _ | .array _ _ => true | _ => false) = true) (hi2 : (P.info? ty2).map (·.size) = some cs2.size) :
    (results fn tmps).run P w = .ok (.tuple #[.agg cs, .agg cs2, v]) w := by
  have hp' : tmps[p]?.getD undef = .pointer (some ⟨g, 0, none⟩) := by simpa using hp
  have hr' : tmps[r]?.getD undef = .pointer (some ⟨g2, 0, none⟩) := by simpa using hr
  have hq' : tmps[q]?.getD undef = v := by simpa using hq
  simp [results, h, hp', hr', hq', asAddr, run_loadVar_row w g t ty cs (0, 0) d hg hu hd hi, run_loadVar_row w g2 t2 ty2 cs2 (0, 0) d2 hg2 hu2 hd2 hi2]
end
theorem buildH0 (w : World) : (Instr.build 41 #[]).run Try.prog w = .ok (.agg (hC [])) w := by kernel_rfl
end Go.Proofs.Ytcajhdmppfiaeaa
namespace Go.Proofs.Ytcajhdmppfiaeaa
open Go.RowKit
theorem Rd.grown_rf {w w' : World} {q : Nat} {t : TypeId} {A D : Option Addr} {n c : Nat} {bad : Bool} {T : List UInt8} (h : Rd w D T) (hr : Row w q t (rfV A n c bad)) (hg : w.grownBy w' (some q)) : Rd w' D T := h.grown hg fun b o e hne e2 => by
  subst e
  obtain ⟨b', o', e', hc'⟩ := h hne
  have h9 := hc' 0 (List.length_pos_iff.2 hne)
  injection e' with e'
  injection e' with e1 e3
  subst e1
  exact rf_no_byte hr h9 (Option.some.inj e2)
theorem Wr.textR_no {l : List UInt8} {bad : Bool} {most : Int} (h : (Wr.numR l bad most).2.2 ≠ 0) : Wr.textR l bad most = ((Wr.numR l bad most).1, [], (Wr.numR l bad most).2.2) := by
  unfold Wr.numR at h
  unfold Wr.textR Wr.numR
  cases bad
  · by_cases h0 : most < 0
    · simp [h0]
    · by_cases hm : Wr.may l most
      · simp [h0, hm] at h
      · simp [h0, hm, Wr.textOk]
  · simp
theorem Wr.numR_yes {l : List UInt8} {bad : Bool} {most : Int} (h : (Wr.numR l bad most).2.2 = 0) : bad = false ∧ ¬ most < 0 ∧ Wr.may l most ∧ Wr.numR l bad most = ((l.drop (Wr.first l).2.toNat, false), ((Wr.first l).1 : Int), 0) := by
  unfold Wr.numR at h ⊢
  cases bad
  · by_cases h0 : most < 0
    · simp [h0] at h
    · by_cases hm : Wr.may l most
      · simp [h0, hm]
      · simp [h0, hm] at h
  · simp at h
end Go.Proofs.Ytcajhdmppfiaeaa
namespace Go.Proofs.Ytcajhdmppfiaeaa
open Go.RowKit
namespace Wr
theorem val_be_take (k n : Nat) (hn : n < 2 ^ (8 * k)) : ∀ i, i ≤ k → val ((be k n).take i) = n / 2 ^ (8 * (k - i))
  | 0, _ => by rw [List.take_zero]; simp [val]; exact (Nat.div_eq_of_lt hn).symm
  | i + 1, hi => by
    rw [be_take k n i (by omega), val_snoc, val_be_take k n hn i (by omega)]
    unfold at_
    rw [UInt8.toNat_ofNat', show k - 1 - i = k - (i + 1) by omega]
    have e : 2 ^ (8 * (k - i)) = 2 ^ (8 * (k - (i + 1))) * 256 := by
      rw [show 8 * (k - i) = 8 * (k - (i + 1)) + 8 by omega, Nat.pow_add]
    rw [e, ← Nat.div_div_eq_div_mul]
    generalize n / 2 ^ (8 * (k - (i + 1))) = y
    omega
theorem val_be (k n : Nat) (hn : n < 2 ^ (8 * k)) : val (be k n) = n := by
  have h := val_be_take k n hn k (Nat.le_refl _)
  rw [List.take_of_length_le (by rw [be_len]; exact Nat.le_refl _)] at h
  simpa using h
/-- A number's bytes are read back. -/
theorem first_bytes (m : Nat) (s : List UInt8) (hm : m ≤ 4611686018427387904) : first (bytes m ++ s) = (m, ((bytes m).length : Int)) := by
  have hlen := bytes_len m
  by_cases h1 : m < 253
  · have hb : bytes m = [UInt8.ofNat m] := by rw [bytes, if_pos h1]
    have hmany : many (UInt8.ofNat m) = 0 := by
      have h : (UInt8.ofNat m).toNat = m := by rw [UInt8.toNat_ofNat']; omega
      unfold many
      rw [if_neg (by intro e; rw [e] at h; simp at h; omega), if_neg (by intro e; rw [e] at h; simp at h; omega), if_neg (by intro e; rw [e] at h; simp at h; omega)]
    rw [hb, List.singleton_append, first, if_pos hmany]
    simp
    omega
  · have key : ∀ (c : UInt8) (k : Nat), many c = k → k ≠ 0 → bytes m = c :: be k m → m < 2 ^ (8 * k) → first (bytes m ++ s) = (m, ((bytes m).length : Int)) := fun c k hk h0 hb hlt => by
      have hl : (bytes m).length = 1 + k := by rw [hb]; simp [be_len]; omega
      have ht : (be k m ++ s).take k = be k m := by rw [List.take_append_of_le_length (by rw [be_len]; exact Nat.le_refl _), List.take_of_length_le (by rw [be_len]; exact Nat.le_refl _)]
      have hf : first ((c :: be k m) ++ s) = (m, 1 + (k : Int)) := by
        rw [List.cons_append, first, hk, if_neg h0, if_neg (by rw [List.length_append, be_len]; omega), ht, val_be k m hlt, hl, if_neg (by simp; omega)]
      rw [hb, hf]
      simp [be_len]
      omega
    by_cases h2 : m < 65536
    · exact key 253 2 (by decide) (by decide) (by rw [bytes, if_neg h1, if_pos h2]) (by simpa using h2)
    · by_cases h3 : m < 4294967296
      · exact key 254 4 (by decide) (by decide) (by rw [bytes, if_neg h1, if_neg h2, if_pos h3]) (by simpa using h3)
      · exact key 255 8 (by decide) (by decide) (by rw [bytes, if_neg h1, if_neg h2, if_neg h3]) (by omega)
/-- A frame's bytes. -/
def frame (l : List UInt8) : List UInt8 := bytes (l.length + 4) ++ (l ++ low4 (Crc.sum l))
theorem open_seal (l : List UInt8) : openOk (l ++ low4 (Crc.sum l)) = true ∧ openB (l ++ low4 (Crc.sum l)) = l := by
  have h4 : (low4 (Crc.sum l)).length = 4 := rfl
  have hl : (l ++ low4 (Crc.sum l)).length - 4 = l.length := by rw [List.length_append, h4]; omega
  have ho : openOk (l ++ low4 (Crc.sum l)) = true := by
    unfold openOk
    rw [hl, List.take_left' rfl, List.drop_left' rfl, eqB_true rfl]
    simp [h4]
  exact ⟨ho, by unfold openB; rw [ho, hl, List.take_left' rfl]; rfl⟩
theorem split_frame (l s : List UInt8) (hl : l.length ≤ 8192) : splitR (frame l ++ s) = (l, ((frame l).length : Int), 0) := by
  have hf : first (frame l ++ s) = (l.length + 4, ((bytes (l.length + 4)).length : Int)) := by
    unfold frame
    rw [List.append_assoc]
    exact first_bytes _ _ (by omega)
  have hp : piece (frame l ++ s) = l ++ low4 (Crc.sum l) := by
    unfold piece
    rw [hf]
    simp only [Int.toNat_natCast]
    unfold frame
    rw [List.append_assoc, List.drop_left' rfl, List.take_left' (by rw [List.length_append]; rfl)]
  have hb0 : 0 < (bytes (l.length + 4)).length := by rw [bytes_len]; split <;> (try split) <;> (try split) <;> omega
  have hfl : (frame l ++ s).length = (bytes (l.length + 4)).length + (l.length + 4) + s.length := by unfold frame; simp [List.length_append, low4]; omega
  have hfl2 : (frame l).length = (bytes (l.length + 4)).length + (l.length + 4) := by unfold frame; simp [List.length_append, low4]
  unfold splitR
  rw [hf, hp, (open_seal l).1, (open_seal l).2, hfl]
  simp only
  rw [if_neg (by omega), if_neg (by omega), if_neg (by omega), if_pos trivial, hfl2]
  simp
end Wr
theorem low4_len (x : BitVec 32) : (low4 x).length = 4 := rfl
end Go.Proofs.Ytcajhdmppfiaeaa
namespace Go.Proofs.Ytcajhdmppfiaeaa
open Go.RowKit
/-- Speaks of blocks below B alone, and of none of C. -/
def Low {β : Type} (C : Nat → Prop) (B : Nat) (J : β → World → Prop) : Prop := ∀ s X Y, J s X → Same (fun k => k < B ∧ ¬ C k) X Y → J s Y
theorem Low.below {β : Type} {C : Nat → Prop} {B : Nat} {J : β → World → Prop} (h : Low C B J) {s : β} {X Y : World} (hs : J s X) (hb : Below B X Y) : J s Y := h s X Y hs ((Same.of_below hb).mono fun k hk => hk.1)
def SeqW {α : Type} (F : Fence) (n : Nat) (P : Program) (g : Nat) (lb : Array Value) (encs : α → Array Value) (Kp : α → World → World → Prop) (S Sp : List α → Prop) (Ok : List α → α → World → Prop) (C : Nat → Prop) (W : World) : Prop :=
  ∀ (l : Nat) (J Jx : List α → World → Prop) (W1 : World), Below W.heap.size W W1 → W.heap.size + 2 ≤ W1.heap.size → Low C W1.heap.size J → Low C W1.heap.size Jx →
    (∀ pre x X, J pre X → Ok pre x X → YieldAt F (n - 1) P l (encs x) X fun e Y => (e = .returned (.bool true) ∧ J (pre ++ [x]) Y ∧ Kp x X Y) ∨ (e = .returned (.bool false) ∧ Jx (pre ++ [x]) Y ∧ Kp x X Y)) →
    J [] W1 → CallsIn F n P g (#[.func (.yield l) #[] #[]] ++ lb) W1 fun e Y => (∃ v, e = .returned v) ∧ ((∃ xs, S xs ∧ J xs Y) ∨ ∃ pre, Sp pre ∧ Jx pre Y)
/-- How a round's body may be left. -/
def leftW {α : Type} (B : Nat) (Kp : World → World → Prop) (I : List α → World → Prop) (Ix : Code → List α → World → Prop) (xs : List α) (W : World) : Exit → Act → World → Prop
  | .normal, _, Y => KeepsFrom B W Y ∧ Kp W Y ∧ I xs Y
  | .ret, _, Y => KeepsFrom B W Y ∧ Kp W Y ∧ Ix .ret xs Y
  | .exit id, _, Y => KeepsFrom B W Y ∧ Kp W Y ∧ Ix (.exit id) xs Y
  | .goto t, _, Y => KeepsFrom B W Y ∧ Kp W Y ∧ Ix (.goto t) xs Y
  | .panic _, _, _ => False
  | .outgrown, _, _ => False
theorem below_put (B : Nat) (X : World) (l : Nat) (o : Obj) (hl : B ≤ l) (hs : B ≤ X.heap.size) : Below B X (X.putObj l o) :=
  (Below.refl B X).grown (grownBy_putObj' X l o) hs (fun k e => by cases e; exact hl)
section
variable {F : Fence} {n : Nat} {P : Program}
theorem wpIn_range_W {α : Type} {g : Operand} {ps : Array Tmp} {assign body : Code} {Q : Exit → Act → World → Prop} {a : Act} {w : World}
    (hro : F.round = none) (h1 : 1 ≤ n) {gf : Nat} {lb : Array Value} (hg : a.eval g = .func (.func gf) #[] lb) (hFg : F.fn gf) (eg : ∀ args w, (callFunc gf args).run P w = .ok (.enter gf args) w)
    {encs : α → Array Value} {Kp : α → World → World → Prop} {S Sp : List α → Prop} {Ok : List α → α → World → Prop} {C : Nat → Prop} {w0 : World} (hseq : SeqW F (n - 1) P gf lb encs Kp S Sp Ok C w0) (hC : ∀ r, C r → r < w.heap.size)
    (hKt : ∀ {x : α} {A B D : World}, Kp x A B → Kp x B D → Kp x A D) (hKb : ∀ (x : α) (W : World) (o : Obj), Kp x W (W.putObj (w.heap.size + 1) o)) (hb0 : Below w0.heap.size w0 w) (hps : ∀ x, (encs x).size = ps.size)
    (I : List α → World → Prop) (Ix : Code → List α → World → Prop) (hI : Low C w.heap.size I) (hIx : ∀ c, Low C w.heap.size (Ix c)) (h0 : I [] w)
    (Ax : List α → α → Act → World → Prop) (hAx : ∀ pre x a' W o, Ax pre x a' W → Ax pre x a' (W.putObj (w.heap.size + 1) o))
    (hassign : ∀ (l : Nat) (pre : List α) (x : α) (W : World) (K : Act → World → Prop), w.heap.size + 2 ≤ W.heap.size → I pre W → Ok pre x W → (∀ a' Y, KeepsFrom w.heap.size W Y → Kp x W Y → I pre Y → Ax pre x a' Y → K a' Y) →
      assign.wpIn (F.inRound l) (n - 1 - 1) P (Exit.then K (fun _ _ _ => False)) { tmps := (ps.zip (encs x)).foldl (fun t (p, v) => t.setIfInBounds p v) a.tmps, defers := [] } W)
    (hbody : ∀ (l : Nat) (pre : List α) (x : α) (a' : Act) (W : World), w.heap.size ≤ l → (∃ r, W.heap[l]? = some (.loop r)) → w.heap.size + 2 ≤ W.heap.size → I pre W → Ax pre x a' W → body.wpIn (F.inRound l) (n - 1 - 1) P (leftW w.heap.size (Kp x) I Ix (pre ++ [x]) W) a' W)
    (hdone : ∀ (D : Nat) (xs : List α) (W : World), w.heap.size ≤ D → S xs → I xs W → W.heap[D]? = some (.deferred (some [])) → Q .normal { a with defers := { target := .collected D, args := #[] } :: a.defers } W)
    (hstop : ∀ (D : Nat) (c : Code) (pre : List α) (W : World), w.heap.size ≤ D → Sp pre → Ix c pre W → W.heap[D]? = some (.deferred (some [])) → c.wpIn F n P Q { a with defers := { target := .collected D, args := #[] } :: a.defers } W) :
    (Code.rangeFunc g ps assign body).wpIn F n P Q a w := by
  refine wpIn_rangeFunc fun fn hfn => ?_
  rw [hro]
  have book1 : Booked (bookOf fn a.tmps ps assign body w.heap.size) w.heap.size .ready none ((w.alloc (.deferred (some []))).alloc (.loop (bookOf fn a.tmps ps assign body w.heap.size .ready none))) := by
    refine ⟨?_, (Below.heap_alloc _ _ _ (by simp)).trans (World.alloc_heap_new w _)⟩
    have := World.alloc_heap_new (w.alloc (.deferred (some []))) (.loop (bookOf fn a.tmps ps assign body w.heap.size .ready none))
    rwa [World.size_alloc] at this
  have hbw : Below w.heap.size w ((w.alloc (.deferred (some []))).alloc (.loop (bookOf fn a.tmps ps assign body w.heap.size .ready none))) :=
    (((Below.refl _ w).alloc (Nat.le_refl _) _).alloc (by simp) _)
  have hb1 : Below w0.heap.size w0 ((w.alloc (.deferred (some []))).alloc (.loop (bookOf fn a.tmps ps assign body w.heap.size .ready none))) := hb0.trans (hbw.mono hb0.size)
  have hi1 := hI.below h0 hbw
  have hsz1 : ((w.alloc (.deferred (some []))).alloc (.loop (bookOf fn a.tmps ps assign body w.heap.size .ready none))).heap.size = w.heap.size + 2 := by simp
  have henter := run_enterLoop_outer (P := P) (w := w) fn a.tmps ps assign body
  generalize hW1 : (w.alloc (.deferred (some []))).alloc (.loop (bookOf fn a.tmps ps assign body w.heap.size .ready none)) = W1 at book1 hb1 hi1 hsz1
  refine ⟨w.heap.size + 1, [{ target := .collected w.heap.size, args := #[] }], W1, { target := .fn (.func gf) lb, args := #[.func (.yield (w.heap.size + 1)) #[] #[]] }, W1, gf,
    #[.func (.yield (w.heap.size + 1)) #[] #[]] ++ lb, W1, ?_, ?_, ?_, ?_, fun _ => h1, ?_⟩
  · rw [← hW1]; exact henter
  · simp only [resolve, hg]; simp [go_sem]
  · intro f' hf'; simp [Target.leads] at hf'; subst hf'; exact hFg
  · simp [invoke, go_sem, eg]
  clear henter hW1 hbw
  have hput : ∀ {s : List α} {X : World} (o : Obj), w.heap.size ≤ X.heap.size → I s X → I s (X.putObj (w.heap.size + 1) o) := fun o hs h => hI.below h (below_put _ _ _ _ (by omega) hs)
  have hputx : ∀ {c : Code} {s : List α} {X : World} (o : Obj), w.heap.size ≤ X.heap.size → Ix c s X → Ix c s (X.putObj (w.heap.size + 1) o) := fun o hs h => (hIx _).below h (below_put _ _ _ _ (by omega) hs)
  have hbook : ∀ {st : LoopState} {pe : Option Code} {X Y : World}, Booked (bookOf fn a.tmps ps assign body w.heap.size) w.heap.size st pe X → Same (fun k => k < W1.heap.size ∧ ¬ C k) X Y → Booked (bookOf fn a.tmps ps assign body w.heap.size) w.heap.size st pe Y := fun h hb => ⟨(hb.block _ ⟨by omega, fun h => by have := hC _ h; omega⟩).trans h.loop, (hb.block _ ⟨by omega, fun h => by have := hC _ h; omega⟩).trans h.defs⟩
  have hbs : ∀ {st : LoopState} {pe : Option Code} {X : World}, Booked (bookOf fn a.tmps ps assign body w.heap.size) w.heap.size st pe X → w.heap.size + 2 ≤ X.heap.size := fun h => by have := (Array.getElem?_eq_some_iff.1 h.loop).1; omega
  refine (hseq (w.heap.size + 1) (fun pre W => I pre W ∧ Booked (bookOf fn a.tmps ps assign body w.heap.size) w.heap.size .ready none W)
    (fun pre W => ∃ c, Ix c pre W ∧ Booked (bookOf fn a.tmps ps assign body w.heap.size) w.heap.size .done (some c) W) W1 hb1 (by have := hb0.size; omega)
    (fun s X Y hs hb => ⟨hI _ _ _ hs.1 (hb.mono fun k hk => ⟨by have := hk.1; omega, hk.2⟩), hbook hs.2 hb⟩)
    (fun s X Y hs hb => by obtain ⟨c, hc, hk⟩ := hs; exact ⟨c, hIx c _ _ _ hc (hb.mono fun k hk => ⟨by have := hk.1; omega, hk.2⟩), hbook hk hb⟩)
    (fun pre x X hX hok => ?_) ⟨hi1, book1⟩).mono ?_
  · obtain ⟨hi, hbk⟩ := hX
    refine ⟨fn, _, assign, body, run_yield (P := P) (args := encs x) hbk.loop (hps x), roundIn_of_wpIn hfn (hassign _ pre x X _ (hbs hbk) hi hok ?_)⟩
    intro a' Y hkf hkp hiY hax
    have hbY := hbk.keeps hkf
    refine ⟨_, run_beginRound hbY.loop rfl, ?_⟩
    have hbZ : Booked (bookOf fn a.tmps ps assign body w.heap.size) w.heap.size .busy none (Y.putObj (w.heap.size + 1) (.loop { bookOf fn a.tmps ps assign body w.heap.size .ready none with state := .busy })) := hbY.turn
    refine wpIn_mono (hbody _ pre x a' _ (by omega) ⟨_, hbZ.loop⟩ (hbs hbZ) (hput _ (by have := hbs hbY; omega) hiY) (hAx pre x a' _ _ hax)) ?_
    have fin : ∀ (jump : Option Code) (Z : World), KeepsFrom w.heap.size (Y.putObj (w.heap.size + 1) (.loop { bookOf fn a.tmps ps assign body w.heap.size .ready none with state := .busy })) Z →
        (Instr.endRound (w.heap.size + 1) jump).run P Z = .ok (.bool jump.isNone) (Z.putObj (w.heap.size + 1) (.loop (bookOf fn a.tmps ps assign body w.heap.size (if jump.isNone then .ready else .done) jump))) ∧
        Booked (bookOf fn a.tmps ps assign body w.heap.size) w.heap.size .busy none Z := fun jump Z hkZ =>
      ⟨run_endRound (P := P) jump (hbZ.keeps hkZ).loop, hbZ.keeps hkZ⟩
    rintro e a3 Z hp
    cases e with
    | normal =>
      obtain ⟨hk3, hkp3, hi3⟩ := hp
      obtain ⟨hr, hb3⟩ := fin none Z hk3
      have hzs := hbs hb3
      exact ⟨_, _, hr, .inl ⟨rfl, ⟨hput _ (by omega) hi3, hb3.turn⟩, hKt hkp (hKt (hKt (hKb _ _ _) hkp3) (hKb _ _ _))⟩⟩
    | ret =>
      obtain ⟨hk3, hkp3, hi3⟩ := hp
      obtain ⟨hr, hb3⟩ := fin (some .ret) Z hk3
      have hzs := hbs hb3
      exact ⟨_, _, hr, .inr ⟨rfl, ⟨.ret, hputx _ (by omega) hi3, hb3.turn⟩, hKt hkp (hKt (hKt (hKb _ _ _) hkp3) (hKb _ _ _))⟩⟩
    | exit id =>
      obtain ⟨hk3, hkp3, hi3⟩ := hp
      obtain ⟨hr, hb3⟩ := fin (some (.exit id)) Z hk3
      have hzs := hbs hb3
      exact ⟨_, _, hr, .inr ⟨rfl, ⟨.exit id, hputx _ (by omega) hi3, hb3.turn⟩, hKt hkp (hKt (hKt (hKb _ _ _) hkp3) (hKb _ _ _))⟩⟩
    | goto t =>
      obtain ⟨hk3, hkp3, hi3⟩ := hp
      obtain ⟨hr, hb3⟩ := fin (some (.goto t)) Z hk3
      have hzs := hbs hb3
      exact ⟨_, _, hr, .inr ⟨rfl, ⟨.goto t, hputx _ (by omega) hi3, hb3.turn⟩, hKt hkp (hKt (hKt (hKb _ _ _) hkp3) (hKb _ _ _))⟩⟩
    | panic ch => exact hp.elim
    | outgrown => exact hp.elim
  · rintro e W2 ⟨⟨v, rfl⟩, (⟨xs, hS, hi, hbk⟩ | ⟨pre, hSp, c, hi, hbk⟩)⟩
    · have hzs := hbs hbk
      exact ⟨none, _, run_endLoop (P := P) hbk.loop (by simp [bookOf]), hdone _ xs _ (Nat.le_refl _) hS (hput _ (by omega) hi) ((World.putObj_heap_other (by omega)).trans hbk.defs)⟩
    · have hzs := hbs hbk
      exact ⟨some c, _, run_endLoop (P := P) hbk.loop (by simp [bookOf]), hstop _ c pre _ (Nat.le_refl _) hSp (hputx _ (by omega) hi) ((World.putObj_heap_other (by omega)).trans hbk.defs)⟩
end
/-- A round that a fence lets in goes into a round of another loop as it is. -/
theorem YieldAt.inRound {m k l l' : Nat} {P : Program} {args : Array Value} {W : World} {R : Ending → World → Prop} (h : YieldAt Fence.wide m P l args W R) : YieldAt (Fence.wide.inRound l') k P l args W R := by
  obtain ⟨fn, tmps, assign, body, h1, h2⟩ := h
  exact ⟨fn, tmps, assign, body, h1, h2.1, fun c cs _ => h2.2 c cs (room_wide _)⟩
end Go.Proofs.Ytcajhdmppfiaeaa
namespace Go.Proofs.Ytcajhdmppfiaeaa
open Go.RowKit
namespace Wr
/-- What is left behind so many frames. -/
def rest : Nat → List UInt8 → List UInt8
  | 0, l => l
  | k + 1, l => (rest k l).drop (splitR (rest k l)).2.1.toNat
/-- There is a frame behind so many frames. -/
def goes (k : Nat) (l : List UInt8) : Bool := (splitR (rest k l)).2.2 == 0 && !((splitR (rest k l)).2.1 == 0)
def size (k : Nat) (l : List UInt8) : Int := (splitR (rest k l)).2.1
def body (k : Nat) (l : List UInt8) : List UInt8 := (splitR (rest k l)).1
theorem split_bounds (l : List UInt8) : 0 ≤ (splitR l).2.1 ∧ (splitR l).2.1 ≤ l.length ∧ (splitR l).1.length ≤ l.length := by
  obtain ⟨h1, h2, h3⟩ := first_le l
  have hp : (piece l).length ≤ l.length := by unfold piece; rw [List.length_take, List.length_drop]; omega
  have ho : (openB (piece l)).length ≤ (piece l).length := by unfold openB; split <;> simp
  unfold splitR
  split
  · simp
  · split
    · simp
    · split
      · simp
      · split
        · refine ⟨by show 0 ≤ (first l).2 + ((first l).1 : Int); omega, by show (first l).2 + ((first l).1 : Int) ≤ l.length; omega, by show (openB (piece l)).length ≤ l.length; omega⟩
        · simp
theorem rest_len (k : Nat) (l : List UInt8) : (rest k l).length ≤ l.length := by
  induction k with
  | zero => exact Nat.le_refl _
  | succ k ih => unfold rest; rw [List.length_drop]; omega
end Wr
theorem run_slice_from2 {P : Program} {t U : TypeId} {A : Option Addr} {n ca k : Nat} (ht : P.underlying t = some (.slice U)) (hi : ByteInfo P U) (h1 : k ≤ n) (h2 : n ≤ ca) :
    ∃ D, (∀ w : World, (Instr.slice t (.slice A n ca) (some (.int .i64 (k : Int))) none none).run P w = .ok (.slice D (n - k) (ca - k)) w) ∧ (∀ (W : World) (l : List UInt8), l.length = n → Rd W A l → Rd W D (l.drop k)) ∧ ∀ ad, D = some ad → ∃ ad', A = some ad' ∧ ad'.block = ad.block := by
  obtain ⟨i, hi0, hz, hs, hb⟩ := info_parts hi
  have he : P.elem t = U := by simp [Program.elem, ht]
  have ht' : P.underlying t = some (.slice (P.elem t)) := by rw [he]; exact ht
  refine ⟨if ca = k then A else A.map (·.add (k * 1)), fun w => ?_, fun W l hl hr => ?_, fun ad e => ?_⟩
  · rw [run_slice_l w t A n ca ht' .i64 (k : Int) (by omega) (by omega), he]
    simp [sizeOf, typeInfo, hi0, hs, sliced]
  · by_cases h : ca = k
    · have : l.drop k = [] := List.drop_eq_nil_of_le (by omega)
      rw [this]
      exact Rd.nil _ _
    · rw [if_neg h, Nat.mul_one]
      intro hne
      obtain ⟨b, o, e, hc⟩ := hr (by intro e; subst e; simp at hne)
      subst e
      refine ⟨b, o + k, by unfold Addr.add; simp, fun i hi' => ?_⟩
      rw [List.getElem_drop, Nat.add_assoc]
      exact hc (k + i) (by rw [List.length_drop] at hi'; omega)
  · split at e
    · exact ⟨ad, e, rfl⟩
    · rcases A with _ | x
      · cases e
      · refine ⟨x, rfl, ?_⟩
        have e2 : x.add (k * 1) = ad := Option.some.inj e
        rw [← e2]
        unfold Addr.add
        split <;> rfl
def lenV : Value → Nat
  | .slice _ n _ => n
  | _ => 0
/-- A frame's body as it is yielded: where the iterator tells it to lie. -/
structure Fr where
  at_ : Int
  A : Option Addr
  c : Nat
  body : List UInt8
  base : Nat
abbrev frE (x : Fr) : Array Value := #[.int .i64 x.at_, .slice x.A x.body.length x.c]
/-- A round keeps all blocks but those of D and the element's own. -/
structure KeepW (D : Nat → Prop) (x : Fr) (X Y : World) : Prop where
  size : X.heap.size ≤ Y.heap.size
  block : ∀ b, b < X.heap.size → ¬ D b → (∀ o, x.A ≠ some ⟨b, o, none⟩) → Y.heap[b]? = X.heap[b]?
theorem KeepW.trans {D : Nat → Prop} {x : Fr} {X Y Z : World} (h : KeepW D x X Y) (k : KeepW D x Y Z) : KeepW D x X Z :=
  ⟨Nat.le_trans h.size k.size, fun b hb hd ha => (k.block b (Nat.lt_of_lt_of_le hb h.size) hd ha).trans (h.block b hb hd ha)⟩
theorem KeepW.row {D : Nat → Prop} {x : Fr} {X Y : World} {g : Nat} {t : TypeId} {cs : Array Value} (h : KeepW D x X Y) (hr : Row X g t cs) (hd : ¬ D g) (ha : ∀ o, x.A ≠ some ⟨g, o, none⟩) : Row Y g t cs := (h.block g hr.lt hd ha).trans hr
theorem KeepW.rd {D : Nat → Prop} {x : Fr} {X Y : World} {A : Option Addr} {l : List UInt8} (h : KeepW D x X Y) (hr : Rd X A l) (hd : ∀ b o, A = some ⟨b, o, none⟩ → ¬ D b ∧ ∀ o', x.A ≠ some ⟨b, o', none⟩) : Rd Y A l := fun hl => by
  obtain ⟨b, o, e, hc⟩ := hr hl
  have hb : b < X.heap.size := block_lt_of_cell (hc 0 (List.length_pos_iff.2 hl))
  exact ⟨b, o, e, fun i hi => (World.cell?_of_block (w := X) (a := ⟨b, o + i, none⟩) (h.block b hb (hd b o e).1 (hd b o e).2)).trans (hc i hi)⟩
/-- The element is told as the frames of l go, and lies in a block of its own. -/
def FrOk (sum : Bool) (B : Nat) (l : List UInt8) (pre : List Fr) (x : Fr) (X : World) : Prop :=
  Wr.goes pre.length l = true ∧ x.body = Wr.body pre.length l ∧ x.at_ = (if sum then ((List.range (pre.length + 1)).map fun i => Wr.size i l).sum else Wr.size pre.length l) ∧ Own 5 X x.base (.slice x.A x.body.length x.c) x.body ∧ B ≤ x.base ∧ x.base ≤ X.heap.size
theorem FrOk.block {sum : Bool} {B : Nat} {l : List UInt8} {pre : List Fr} {x : Fr} {X : World} (h : FrOk sum B l pre x X) {b o : Nat} (e : x.A = some ⟨b, o, none⟩) : x.base ≤ b ∧ b < X.heap.size := h.2.2.2.1.at_ b (by rw [e]; rfl)
end Go.Proofs.Ytcajhdmppfiaeaa
namespace Go.Proofs.Ytcajhdmppfiaeaa
open Go.RowKit
attribute [local go_sem] Oper.semAt_some
def Wr.upto (k : Nat) (l : List UInt8) : Int := ((List.range k).map fun i => Wr.size i l).sum
theorem Wr.upto_succ (k : Nat) (l : List UInt8) : Wr.upto (k + 1) l = Wr.upto k l + Wr.size k l := by
  unfold Wr.upto
  rw [List.range_succ, List.map_append, List.sum_append]
  simp
theorem Wr.upto_le (l : List UInt8) : ∀ k, (∀ i, i < k → Wr.goes i l = true) → 0 ≤ Wr.upto k l ∧ Wr.upto k l + (Wr.rest k l).length = l.length
  | 0, _ => by simp [Wr.upto, Wr.rest]
  | k + 1, h => by
    obtain ⟨h1, h2⟩ := Wr.upto_le l k (fun i hi => h i (by omega))
    obtain ⟨b1, b2, b3⟩ := Wr.split_bounds (Wr.rest k l)
    rw [Wr.upto_succ]
    unfold Wr.size
    rw [Wr.rest, List.length_drop]
    omega
theorem name_frame {P : Program} {c : Code} {Q : Exit → Act → World → Prop} {tm : Array Value} {d : List Deferred} {w : World} (h : ∀ T, T = tm → c.wp P Q { tmps := T, defers := d } w) : c.wp P Q { tmps := tm, defers := d } w := h tm rfl
theorem KeepW.refl (D : Nat → Prop) (x : Fr) (X : World) : KeepW D x X X := ⟨Nat.le_refl _, fun _ _ _ _ => rfl⟩
theorem KeepW.mono {D D' : Nat → Prop} {x x' : Fr} {X Y : World} (h : KeepW D x X Y) (hD : ∀ b, D b → D' b) (hx : x'.A = x.A) : KeepW D' x' X Y := ⟨h.size, fun b hb hd ha => h.block b hb (fun k => hd (hD b k)) (fun o e => ha o (hx ▸ e))⟩
theorem KeepW.put {D : Nat → Prop} {x : Fr} (W : World) {l : Nat} (o : Obj) (hl : D l) : KeepW D x W (W.putObj l o) := ⟨by simp [World.putObj], fun b hb hd _ => World.putObj_heap_other (fun e => hd (e ▸ hl))⟩
theorem KeepW.set {D : Nat → Prop} {x : Fr} (W : World) (p : Addr) (v : Value) (hp : D p.block) : KeepW D x W (W.setCell p v) := ⟨by simp [World.setCell], fun b hb hd _ => Below.heap_setCell W p v b (fun e => hd (e ▸ hp))⟩
/-- What a round keeps holds of all that holds no cells, from there on. -/
theorem KeepW.from {D : Nat → Prop} {x : Fr} {X Y : World} {B : Nat} (h : KeepW D x X Y) (hD : ∀ b, D b → b < B) (hx : ∀ b o, x.A = some ⟨b, o, none⟩ → ∃ ob, X.heap[b]? = some ob ∧ ob.isCells = true) : KeepsFrom B X Y := ⟨h.size, fun k o hk hko hc => by
  have hlt := (Array.getElem?_eq_some_iff.1 hko).1
  refine (h.block k hlt (fun hd => by have := hD k hd; omega) (fun o' e => ?_)).trans hko
  obtain ⟨ob, h1, h2⟩ := hx k o' e
  rw [hko] at h1
  cases h1
  rw [hc] at h2
  cases h2⟩
theorem FrOk.cells {sum : Bool} {B : Nat} {l : List UInt8} {pre : List Fr} {x : Fr} {X : World} (h : FrOk sum B l pre x X) {b o : Nat} (e : x.A = some ⟨b, o, none⟩) : ∃ ob, X.heap[b]? = some ob ∧ ob.isCells = true := by
  rcases h.2.2.2.1.2 with ⟨e2, _⟩ | ⟨g, cap, cur, e2, hb, hh, _⟩
  · injection e2 with e2 _ _
    rw [e] at e2
    cases e2
  · injection e2 with e2 _ _
    rw [e] at e2
    injection e2 with e2
    injection e2 with e2
    subst e2
    exact ⟨_, hh, rfl⟩
theorem wpListIn_load {F : Fence} {n : Nat} {P : Program} {w : World} {ops : Array Oper} {rest : List Oper} {o : Oper} {a : Act} {Q : Exit → Act → World → Prop} (hgd : o.guard = none) (T : TypeId) (x : Operand) (ho : o.op = .load T x) (vx : Value) (hx : a.eval x = vx) {v : Value} {w' : World}
    (hr : (Instr.loadAt T vx).run P w = .ok v w') (h : wpListIn F n P ops Q rest (a.put o.dst v) w') : wpListIn F n P ops Q (o :: rest) a w := by
  refine wpListIn_plain hgd fun K hK => ?_
  unfold Oper.wpIn
  refine ⟨?_, ?_⟩
  · simp [Oper.about, ho]
  · rw [Oper.semAt_plain F _ _ (by rw [ho]; intro c hc'; cases hc')]
    simp [execOp, ho, hx, hr, Result.andThen]
    exact hK _ _ h
section
variable {F : Fence} {n : Nat} {P : Program} {w : World} {ops : Array Oper} {rest : List Oper} {o : Oper} {a : Act} {Q : Exit → Act → World → Prop}
theorem wpListIn_allocR (hgd : o.guard = none) (T : TypeId) (ho : o.op = .alloc T) {v : Value} {w' : World} (hr : (Instr.alloc T true (.tuple #[])).run P w = .ok v w')
    (h : wpListIn F n P ops Q rest (a.put o.dst v) w') : wpListIn F n P ops Q (o :: rest) a w := by
  refine wpListIn_plain hgd fun K hK => ?_
  unfold Oper.wpIn
  refine ⟨?_, ?_⟩
  · simp [Oper.about, ho]
  · rw [Oper.semAt_plain F _ _ (by rw [ho]; intro c hc'; cases hc')]
    simp [execOp, ho, hr, Result.andThen]
    exact hK _ _ h
theorem wpListIn_storeR (hgd : o.guard = none) (T : TypeId) (x y : Operand) (ho : o.op = .store T x y) (vx vy : Value) (hx : a.eval x = vx) (hy : a.eval y = vy) {w' : World} (hr : (Instr.storeAt T vx vy).run P w = .ok () w')
    (h : wpListIn F n P ops Q rest (a.put o.dst undef) w') : wpListIn F n P ops Q (o :: rest) a w := by
  refine wpListIn_plain hgd fun K hK => ?_
  unfold Oper.wpIn
  refine ⟨?_, ?_⟩
  · simp [Oper.about, ho]
  · rw [Oper.semAt_plain F _ _ (by rw [ho]; intro c hc'; cases hc')]
    simp [execOp, ho, hx, hy, hr, Result.andThen]
    exact hK _ _ h
end
theorem KeepsFrom.of_later {B : Nat} {W W' : World} (h : Later W W') : KeepsFrom B W W' := ⟨h.size, fun k o _ hk _ => (Below.block h k (Array.getElem?_eq_some_iff.1 hk).1).trans hk⟩
theorem storeInt {b o : Nat} {x y : Int} {W : World} (hc : W.cell? ⟨b, o, none⟩ = some (.int .i64 x)) (hf : W.frozen? ⟨b, o, none⟩ = false) : (Instr.storeAt 3 (.pointer (some ⟨b, o, none⟩)) (.int .i64 y)).run Try.prog W = .ok () (W.setCell ⟨b, o, none⟩ (.int .i64 y)) := by
  go_simp
end Go.Proofs.Ytcajhdmppfiaeaa
namespace Go.Proofs.Ytcajhdmppfiaeaa
open Go.RowKit Go.ChangeShapes Go.WideShapes Go.ChangeAt
namespace Wr
theorem frame_short (t : List UInt8) (h : t.length ≤ 100) : frame t = UInt8.ofNat (t.length + 4) :: (t ++ low4 (Crc.sum t)) := by
  unfold frame bytes
  rw [if_pos (by omega)]
  rfl
theorem frame_len (t : List UInt8) (h : t.length ≤ 100) : (frame t).length = t.length + 5 := by
  rw [frame_short t h]
  simp [low4]
/-- Of a frame that was cut nothing is split off. -/
theorem split_cut (t : List UInt8) (h : t.length ≤ 100) (m : Nat) (hm : m < (frame t).length) : splitR ((frame t).take m) = ([], 0, 0) := by
  rw [frame_len t h] at hm
  rw [frame_short t h]
  cases m with
  | zero => rfl
  | succ m =>
    have h1 : (UInt8.ofNat (t.length + 4)).toNat = t.length + 4 := by rw [UInt8.toNat_ofNat']; omega
    have hmany : many (UInt8.ofNat (t.length + 4)) = 0 := by
      unfold many
      rw [if_neg (by intro e; rw [e] at h1; simp at h1; omega), if_neg (by intro e; rw [e] at h1; simp at h1; omega), if_neg (by intro e; rw [e] at h1; simp at h1; omega)]
    have hf : first ((UInt8.ofNat (t.length + 4) :: (t ++ low4 (Crc.sum t))).take (m + 1)) = (t.length + 4, 1) := by
      rw [List.take_succ_cons, first, if_pos hmany, h1]
    have hl : ((UInt8.ofNat (t.length + 4) :: (t ++ low4 (Crc.sum t))).take (m + 1)).length = m + 1 := by rw [List.length_take]; simp [low4]; omega
    unfold splitR
    rw [hf, hl]
    simp only
    rw [if_neg (by omega), if_neg (by omega), if_pos (by omega)]
/-- The frames' bytes; where so many of them end. -/
def fr (ts : List (List UInt8)) : List UInt8 := (ts.map frame).flatten
def endOf (ts : List (List UInt8)) (k : Nat) : Nat := (fr (ts.take k)).length
theorem fr_snoc (ts : List (List UInt8)) (i : Nat) (h : i < ts.length) : fr (ts.take (i + 1)) = fr (ts.take i) ++ frame ts[i] := by
  unfold fr
  rw [List.take_succ_eq_append_getElem h, List.map_append, List.flatten_append]
  simp
theorem endOf_succ (ts : List (List UInt8)) (i : Nat) (h : i < ts.length) : endOf ts (i + 1) = endOf ts i + (frame ts[i]).length := by
  unfold endOf
  rw [fr_snoc ts i h, List.length_append]
theorem endOf_le (ts : List (List UInt8)) (h100 : ∀ t ∈ ts, t.length ≤ 100) : ∀ k, k ≤ ts.length → endOf ts k ≤ 105 * k
  | 0, _ => by simp [endOf, fr]
  | k + 1, h => by
    have h1 := endOf_le ts h100 k (by omega)
    rw [endOf_succ ts k (by omega), frame_len _ (h100 _ (List.getElem_mem _))]
    have := h100 _ (List.getElem_mem (show k < ts.length by omega))
    omega
theorem fr_drop (ts : List (List UInt8)) (i : Nat) (h : i < ts.length) : fr (ts.drop i) = frame ts[i] ++ fr (ts.drop (i + 1)) := by
  unfold fr
  rw [List.drop_eq_getElem_cons h, List.map_cons, List.flatten_cons]
theorem step_at (ts : List (List UInt8)) (h100 : ∀ t ∈ ts, t.length ≤ 100) (m i : Nat) (h : i < ts.length) :
    splitR ((fr (ts.drop i)).take m) = if (frame ts[i]).length ≤ m then (ts[i], ((frame ts[i]).length : Int), 0) else ([], 0, 0) := by
  have hi := h100 _ (List.getElem_mem h)
  rw [fr_drop ts i h]
  split
  · rename_i hle
    rw [List.take_append, List.take_of_length_le hle]
    exact split_frame _ _ (by omega)
  · rename_i hle
    rw [List.take_append_of_le_length (by omega)]
    exact split_cut _ hi m (by omega)
theorem rest_at (ts : List (List UInt8)) (h100 : ∀ t ∈ ts, t.length ≤ 100) (cut : Nat) : ∀ k, k ≤ ts.length → endOf ts k ≤ cut → rest k ((fr ts).take cut) = (fr (ts.drop k)).take (cut - endOf ts k)
  | 0, _, _ => by simp [rest, endOf, fr]
  | k + 1, h, hc => by
    have hk : k < ts.length := by omega
    have he := endOf_succ ts k hk
    have ih := rest_at ts h100 cut k (by omega) (by omega)
    rw [rest, ih, step_at ts h100 _ k hk, if_pos (by omega), fr_drop ts k hk]
    simp only [Int.toNat_natCast]
    rw [List.take_append, List.take_of_length_le (by omega), List.drop_left' rfl, he]
    congr 1
    omega
theorem goes_at (ts : List (List UInt8)) (h100 : ∀ t ∈ ts, t.length ≤ 100) (cut k : Nat) (h : k ≤ ts.length) (hc : endOf ts k ≤ cut) :
    (goes k ((fr ts).take cut) = true → ∃ hk : k < ts.length, endOf ts (k + 1) ≤ cut ∧ body k ((fr ts).take cut) = ts[k] ∧ size k ((fr ts).take cut) = ((frame ts[k]).length : Int)) ∧
    (goes k ((fr ts).take cut) = false → k = ts.length ∨ (k < ts.length ∧ cut < endOf ts (k + 1))) := by
  have hr := rest_at ts h100 cut k h hc
  by_cases hk : k < ts.length
  · have hs := step_at ts h100 (cut - endOf ts k) k hk
    have he := endOf_succ ts k hk
    rw [← hr] at hs
    have hl := frame_len _ (h100 _ (List.getElem_mem hk))
    unfold goes body size
    by_cases hle : (frame ts[k]).length ≤ cut - endOf ts k
    · rw [if_pos hle] at hs
      rw [hs]
      refine ⟨fun _ => ⟨hk, by omega, rfl, rfl⟩, fun h => ?_⟩
      exfalso
      have h0 : ((frame ts[k]).length : Int) ≠ 0 := by omega
      rw [show ((0 : Int) == 0) = true from rfl, beq_eq_false_iff_ne.2 h0] at h
      cases h
    · rw [if_neg hle] at hs
      rw [hs]
      exact ⟨fun h => by simp at h, fun _ => .inr ⟨hk, by omega⟩⟩
  · have hke : k = ts.length := by omega
    subst hke
    refine ⟨fun h => ?_, fun _ => .inl rfl⟩
    unfold goes at h
    rw [hr, List.drop_of_length_le (Nat.le_refl _)] at h
    simp [fr, splitR, first] at h
theorem upto_at (ts : List (List UInt8)) (h100 : ∀ t ∈ ts, t.length ≤ 100) (cut : Nat) : ∀ k, k ≤ ts.length → endOf ts k ≤ cut → upto k ((fr ts).take cut) = (endOf ts k : Int)
  | 0, _, _ => by simp [upto, endOf, fr]
  | k + 1, h, hc => by
    have hk : k < ts.length := by omega
    have he := endOf_succ ts k hk
    have ih := upto_at ts h100 cut k (by omega) (by omega)
    have hr := rest_at ts h100 cut k (by omega) (by omega)
    rw [upto_succ, ih, he, size, hr, step_at ts h100 _ k hk, if_pos (by omega)]
    simp
end Wr
/-- A slice's cells read as these texts. -/
def Strs (w : World) (A : Option Addr) (ss : List (List UInt8)) : Prop := RdV w A (ss.map fun s => .string ⟨s.toArray⟩)
structure InStrs (w : World) (A : Option Addr) (n c : Nat) (ss : List (List UInt8)) : Prop where
  len : ss.length = n
  cap : n ≤ c
  most : c ≤ maxLen
  small : ∀ s ∈ ss, s.length ≤ maxLen
  rd : Strs w A ss
section
variable {H : Type} {enc : TypeId × Value → H} {P : Program} {w : World} {held : Bool}
theorem in_strs {t e : TypeId} {fuel len cap : Nat} {A : Option Addr} {x : DataW H × List MemPlace} (ht : P.underlying t = some (.slice e)) (he : P.underlying e = some .string) (hc : P.cellsOf e = 1)
    (h : DataW.trod enc P w 0 (fun _ => true) held fuel t [.slice A len cap] = some x) : ∃ ss, InStrs w A len cap ss := by
  rcases Deep.open_strs ht he hc h with ⟨hcs, _⟩ | ⟨ad, l, c, m, Sx, hcs, _, hl, hm, hmm, _, hcell⟩
  · injection hcs with h1
    injection h1 with h1 h2 h3
    subst h1 h2 h3
    exact ⟨[], rfl, Nat.le_refl _, Nat.zero_le _, by simp, RdV.nil _ _⟩
  · injection hcs with h1
    injection h1 with h1 h2 h3
    subst h1 h2 h3
    simp only [if_true] at hmm
    subst hmm
    refine ⟨(List.range len).map fun i => (Sx i).data.toList, by simp, hl, hm, fun s hs => ?_, rdV_of fun i hi => ?_⟩
    · obtain ⟨i, hi, rfl⟩ := List.mem_map.1 hs
      have := (hcell i (by have := List.mem_range.1 hi; omega)).2
      simpa using this
    · have hi' : i < len := by simpa using hi
      have := (hcell i (by omega)).1
      rw [this]
      simp
end
end Go.Proofs.Ytcajhdmppfiaeaa
namespace Go.Proofs.Ytcajhdmppfiaeaa
open Go.RowKit
end Go.Proofs.Ytcajhdmppfiaeaa
namespace Go.Proofs.Ytcajhdmppfiaeaa
open Go.RowKit
namespace Wr
theorem rest_drop (l : List UInt8) : ∀ k, (∀ i, i < k → goes i l = true) → rest k l = l.drop (upto k l).toNat
  | 0, _ => by simp [rest, upto]
  | k + 1, h => by
    have ih := rest_drop l k (fun i hi => h i (by omega))
    obtain ⟨h1, h2⟩ := upto_le l k (fun i hi => h i (by omega))
    obtain ⟨b1, b2, b3⟩ := split_bounds (rest k l)
    rw [rest, upto_succ, size, ih, List.drop_drop]
    rw [ih] at b1
    congr 1
    omega
theorem upto_ge (l : List UInt8) : ∀ k, (∀ i, i < k → goes i l = true) → (k : Int) ≤ upto k l
  | 0, _ => by simp [upto]
  | k + 1, h => by
    have ih := upto_ge l k (fun i hi => h i (by omega))
    obtain ⟨b1, b2, b3⟩ := split_bounds (rest k l)
    have hg := h k (by omega)
    unfold goes at hg
    rw [Bool.and_eq_true] at hg
    have h0 : (splitR (rest k l)).2.1 ≠ 0 := by simpa using hg.2
    rw [upto_succ, size]
    omega
end Wr
/-- A part: where its frame ends, where its body lies, the body. -/
structure PartR where
  at_ : Int
  A : Option Addr
  c : Nat
  body : List UInt8
def PartR.cells (d : PartR) : Array Value := #[.int .i64 d.at_, .slice d.A d.body.length d.c]
def partsC (ds : List PartR) : List Value := (ds.map fun d => d.cells.toList).flatten
theorem partsC_snoc (ds : List PartR) (d : PartR) : partsC (ds ++ [d]) = partsC ds ++ d.cells.toList := by simp [partsC]
theorem partsC_at : ∀ (ds : List PartR) (k : Nat) (h : k < ds.length) (j : Nat), j < 2 → (partsC ds)[k * 2 + j]? = ds[k].cells.toList[j]?
  | d :: ds, 0, _, j, hj => by
    unfold partsC
    rw [List.map_cons, List.flatten_cons, Nat.zero_mul, Nat.zero_add, List.getElem?_append_left (by simp [PartR.cells]; exact hj)]
    rfl
  | d :: ds, k + 1, h, j, hj => by
    have ih := partsC_at ds k (by simpa using h) j hj
    unfold partsC at *
    rw [List.map_cons, List.flatten_cons, List.getElem?_append_right (by simp [PartR.cells]; omega)]
    rw [show (k + 1) * 2 + j - d.cells.toList.length = k * 2 + j by simp [PartR.cells]; omega]
    simpa using ih
/-- What the document's Frames tells. -/
def Parts (A : Option Addr) (l : List UInt8) (ds : List PartR) : Prop :=
  (∀ k, k < ds.length → Wr.goes k l = true) ∧ ∀ k (hk : k < ds.length), ds[k].at_ = Wr.upto (k + 1) l ∧ ds[k].body = Wr.body k l ∧ ∀ W, Rd W A l → Rd W ds[k].A ds[k].body
end Go.Proofs.Ytcajhdmppfiaeaa
