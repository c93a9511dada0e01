/- Runs of single operations on words and whole numbers, over this program; for regions taken by what each operation yields. -/
import Derived.Test.YtfconncnccgenaaRows
import Derived.Test.YtfconncnccgenaaOrderIn
import Derived.Laws.BitsAllLaws
import Derived.IntWalk
set_option linter.unusedVariables false
set_option linter.unusedSimpArgs false
namespace Go.Proofs.Ytfconncnccgenaa
open Go.RowKit
/- words of 32 bits as the walk spells them -/
abbrev wordV (x : BitVec 32) : Value := .int .u32 (x.toNat : Int)
abbrev intV (n : Nat) : Value := .int .i64 (n : Int)
theorem bv_or (x y : BitVec 32) : bits .or .u32 (x.toNat : Int) (y.toNat : Int) = ((x ||| y).toNat : Int) := by rw [u32_or_nat _ _ x.isLt y.isLt, BitVec.toNat_or]
theorem bv_and (x y : BitVec 32) : bits .and .u32 (x.toNat : Int) (y.toNat : Int) = ((x &&& y).toNat : Int) := by rw [u32_and_nat _ _ x.isLt y.isLt, BitVec.toNat_and]
theorem bv_xor (x y : BitVec 32) : bits .xor .u32 (x.toNat : Int) (y.toNat : Int) = ((x ^^^ y).toNat : Int) := by rw [u32_xor_nat _ _ x.isLt y.isLt, BitVec.toNat_xor]
theorem bv_add (x y : BitVec 32) : ((x.toNat : Int) + (y.toNat : Int)) % 4294967296 = ((x + y).toNat : Int) := by rw [BitVec.toNat_add]; omega
theorem bv_shl (x : BitVec 32) (k : Nat) : (x.toNat : Int) * 2 ^ k % 4294967296 = ((x <<< k).toNat : Int) := by
  rw [BitVec.toNat_shiftLeft, Nat.shiftLeft_eq, Int.natCast_emod, Int.natCast_mul, Int.natCast_pow]
  rfl
theorem bv_shr (x : BitVec 32) (k : Nat) : (x.toNat : Int) / 2 ^ k = ((x >>> k).toNat : Int) := by
  rw [BitVec.toNat_ushiftRight, Nat.shiftRight_eq_div_pow, Int.natCast_ediv, Int.natCast_pow]
  rfl
theorem ret_u32 {a b : Int} (h : a = b) : Ending.returned (.int .u32 a) = .returned (.int .u32 b) := by rw [h]
/- what memory holds -/
theorem load32 {b o : Nat} {x : BitVec 32} {W : World} (hc : W.cell? ⟨b, o, none⟩ = some (.int .u32 (x.toNat : Int))) : (Instr.loadAt 39 (.pointer (some ⟨b, o, none⟩))).run Try.prog W = .ok (wordV x) W := by
  go_simp
theorem loadI {b o : Nat} {x : Int} {W : World} (hc : W.cell? ⟨b, o, none⟩ = some (.int .i64 x)) : (Instr.loadAt 3 (.pointer (some ⟨b, o, none⟩))).run Try.prog W = .ok (.int .i64 x) W := by
  go_simp
theorem store32 {b o : Nat} {x : BitVec 32} {v : Value} {W : World} (hc : W.cell? ⟨b, o, none⟩ = some v) (hf : W.frozen? ⟨b, o, none⟩ = false) : (Instr.storeAt 39 (.pointer (some ⟨b, o, none⟩)) (wordV x)).run Try.prog W = .ok () (W.setCell ⟨b, o, none⟩ (wordV x)) := by
  go_simp
theorem addI {x y : Int} {W : World} (h1 : -9223372036854775808 ≤ x + y) (h2 : x + y ≤ 9223372036854775807) : (binOp .add 3 (.int .i64 x) (.int .i64 y)).run Try.prog W = .ok (.int .i64 (x + y)) W := by
  have e := IntWalk.i64_in (x + y) (by omega)
  have h : (binOp .add 3 (.int .i64 x) (.int .i64 y)).run Try.prog W = .ok (.int .i64 (IntKind.i64.wrap (x + y))) W := by kernel_rfl
  rw [h, e]
theorem add32 {x y : BitVec 32} {W : World} : (binOp .add 39 (wordV x) (wordV y)).run Try.prog W = .ok (wordV (x + y)) W := by
  have h : (binOp .add 39 (wordV x) (wordV y)).run Try.prog W = .ok (.int .u32 (IntKind.u32.wrap ((x.toNat : Int) + (y.toNat : Int)))) W := by kernel_rfl
  rw [h, IntKind.wrap_u32', bv_add]
theorem xor32 {x y : BitVec 32} {W : World} : (binOp .xor 39 (wordV x) (wordV y)).run Try.prog W = .ok (wordV (x ^^^ y)) W := by
  have h : (binOp .xor 39 (wordV x) (wordV y)).run Try.prog W = .ok (.int .u32 (bits .xor .u32 (x.toNat : Int) (y.toNat : Int))) W := by kernel_rfl
  rw [h, bv_xor]
theorem and32 {x y : BitVec 32} {W : World} : (binOp .and 39 (wordV x) (wordV y)).run Try.prog W = .ok (wordV (x &&& y)) W := by
  have h : (binOp .and 39 (wordV x) (wordV y)).run Try.prog W = .ok (.int .u32 (bits .and .u32 (x.toNat : Int) (y.toNat : Int))) W := by kernel_rfl
  rw [h, bv_and]
theorem or32 {x y : BitVec 32} {W : World} : (binOp .or 39 (wordV x) (wordV y)).run Try.prog W = .ok (wordV (x ||| y)) W := by
  have h : (binOp .or 39 (wordV x) (wordV y)).run Try.prog W = .ok (.int .u32 (bits .or .u32 (x.toNat : Int) (y.toNat : Int))) W := by kernel_rfl
  rw [h, bv_or]
theorem remI {x y : Nat} {W : World} (h0 : 0 < y) (hx : x < 9223372036854775808) (hy : y < 9223372036854775808) : (binOp .rem 3 (.int .i64 (x : Int)) (.int .i64 (y : Int))).run Try.prog W = .ok (.int .i64 ((x % y : Nat) : Int)) W := by
  have hne : ((y : Int) == 0) = false := by rw [beq_eq_false_iff_ne]; omega
  have e : ((x : Int).tmod (y : Int)) = ((x % y : Nat) : Int) := by rw [Int.tmod_eq_emod_of_nonneg (by omega)]; rfl
  go_simp
  omega
theorem eqg_add {T : TypeId} {x y : Operand} {vx vy : Value} {P : Program} {W : World} : (eqGuard .add T x y vx vy).run P W = .ok () W := rfl
theorem eqg_xor {T : TypeId} {x y : Operand} {vx vy : Value} {P : Program} {W : World} : (eqGuard .xor T x y vx vy).run P W = .ok () W := rfl
theorem eqg_and {T : TypeId} {x y : Operand} {vx vy : Value} {P : Program} {W : World} : (eqGuard .and T x y vx vy).run P W = .ok () W := rfl
theorem eqg_or {T : TypeId} {x y : Operand} {vx vy : Value} {P : Program} {W : World} : (eqGuard .or T x y vx vy).run P W = .ok () W := rfl
theorem eqg_rem {T : TypeId} {x y : Operand} {vx vy : Value} {P : Program} {W : World} : (eqGuard .rem T x y vx vy).run P W = .ok () W := rfl
section
variable {P : Program} {Q : Exit → Act → World → Prop} {o : Oper} {a : Act} {W : World} {R : Value → World → Prop}
theorem op_nil {x : Operand} {ad : Addr} (ho : o.op = .nilCheck x) (hx : a.eval x = .pointer (some ad)) (h : R (.pointer (some ad)) W) : o.wp P a W (fun a' W' => ∃ v, a' = a.put o.dst v ∧ Later W W' ∧ R v W') Q := by
  refine op_value (v := .pointer (some ad)) (W' := W) ?_ (Later.refl _) h
  unfold execOp
  simp only [ho, hx, Sem.run_pure]
theorem op_idx {t : TypeId} {x y : Operand} {vx vy v : Value} (ho : o.op = .indexAddr t x y) (hx : a.eval x = vx) (hy : a.eval y = vy) (hr : (Instr.indexAt t vx vy).run P W = .ok v W) (h : R v W) : o.wp P a W (fun a' W' => ∃ v, a' = a.put o.dst v ∧ Later W W' ∧ R v W') Q := by
  refine op_value (v := v) (W' := W) ?_ (Later.refl _) h
  unfold execOp
  simp only [ho, hx, hy, hr, Sem.run_bind, Sem.run_pure, Result.andThen_ok]
theorem op_fieldAddr {t : TypeId} {x : Operand} {i : Nat} {vx v : Value} (ho : o.op = .fieldAddr t x i) (hx : a.eval x = vx) (hr : (Instr.fieldAt t vx i).run P W = .ok v W) (h : R v W) : o.wp P a W (fun a' W' => ∃ v, a' = a.put o.dst v ∧ Later W W' ∧ R v W') Q := by
  refine op_value (v := v) (W' := W) ?_ (Later.refl _) h
  unfold execOp
  simp only [ho, hx, hr, Sem.run_bind, Sem.run_pure, Result.andThen_ok]
end
end Go.Proofs.Ytfconncnccgenaa
