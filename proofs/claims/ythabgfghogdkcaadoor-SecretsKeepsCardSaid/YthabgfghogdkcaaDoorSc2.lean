/- Walks, secrets: flip, down. -/
import Derived.Test.YthabgfghogdkcaaDoorSc1
import Derived.Test.YthabgfghogdkcaaDoorSb5
set_option linter.unusedVariables false
set_option linter.unusedSimpArgs false
namespace Go.Proofs.YthabgfghogdkcaaDoor
open Go.RowKit
section
variable {P : Program} {ops : Array Oper} {rest : List Oper} {o : Oper} {a : Act} {w : World} {Q : Exit → Act → World → Prop}
theorem wpList_idx (hgd : o.guard = none) (T : TypeId) (x y : Operand) (ho : o.op = .indexAddr T x y) (vx vy : Value) (hx : a.eval x = vx) (hy : a.eval y = vy) {v : Value} {w' : World} (hr : (Instr.indexAt T vx vy).run P w = .ok v w')
    (h : wpList P ops Q rest (a.put o.dst v) w') : wpList P ops Q (o :: rest) a w :=
  wpList_plain hgd fun _ hK => by
    unfold Oper.wp execOp
    simp only [ho, Sem.run_bind, Sem.run_pure, Result.andThen_ok, hx, hy, hr]
    exact hK _ _ h
theorem wpList_conv (hgd : o.guard = none) (S T : TypeId) (x : Operand) (ho : o.op = .convert S T x) (vx : Value) (hx : a.eval x = vx) {v : Value} {w' : World} (hr : (convert S T vx).run P w = .ok v w')
    (h : wpList P ops Q rest (a.put o.dst v) w') : wpList P ops Q (o :: rest) a w :=
  wpList_plain hgd fun _ hK => by
    unfold Oper.wp execOp
    simp only [ho, Sem.run_bind, Sem.run_pure, Result.andThen_ok, hx, hr]
    exact hK _ _ h
theorem wpList_field (hgd : o.guard = none) (T : TypeId) (x : Operand) (i : Nat) (ho : o.op = .fieldAddr T x i) (vx : Value) (hx : a.eval x = vx) {v : Value} {w' : World} (hr : (Instr.fieldAt T vx i).run P w = .ok v w')
    (h : wpList P ops Q rest (a.put o.dst v) w') : wpList P ops Q (o :: rest) a w :=
  wpList_plain hgd fun _ hK => by
    unfold Oper.wp execOp
    simp only [ho, Sem.run_bind, Sem.run_pure, Result.andThen_ok, hx, hr]
    exact hK _ _ h
end
/- single operations on whole numbers -/
theorem eqg_any {b : BinOp} (hb : (b != .eql && b != .neq) = true) {T : TypeId} {x y : Operand} {vx vy : Value} {P : Program} {W : World} : (eqGuard b T x y vx vy).run P W = .ok () W := by
  cases b <;> first | rfl | cases hb
theorem subI {x y : Nat} (h : y ≤ x) (hx : x < 9223372036854775808) {W : World} : (binOp .sub 3 (.int .i64 (x : Int)) (.int .i64 (y : Int))).run Tryd.prog W = .ok (.int .i64 ((x - y : Nat) : Int)) W := by
  have h' : (binOp .sub 3 (.int .i64 (x : Int)) (.int .i64 (y : Int))).run Tryd.prog W = .ok (.int .i64 (IntKind.i64.wrap ((x : Int) - (y : Int)))) W := by kernel_rfl
  rw [h', show (x : Int) - (y : Int) = ((x - y : Nat) : Int) from by omega, IntWalk.i64_in _ (by omega)]
theorem sub64 {x y : Nat} (h : y ≤ x) (hx : x < 9223372036854775808) {W : World} : (binOp .sub 2 (.int .i64 (x : Int)) (.int .i64 (y : Int))).run Tryd.prog W = .ok (.int .i64 ((x - y : Nat) : Int)) W := by
  have h' : (binOp .sub 2 (.int .i64 (x : Int)) (.int .i64 (y : Int))).run Tryd.prog W = .ok (.int .i64 (IntKind.i64.wrap ((x : Int) - (y : Int)))) W := by kernel_rfl
  rw [h', show (x : Int) - (y : Int) = ((x - y : Nat) : Int) from by omega, IntWalk.i64_in _ (by omega)]
theorem quoI {x y : Nat} {W : World} (h0 : 0 < y) (hx : x < 9223372036854775808) (hy : y < 9223372036854775808) : (binOp .quo 3 (.int .i64 (x : Int)) (.int .i64 (y : Int))).run Tryd.prog W = .ok (.int .i64 ((x / y : Nat) : Int)) W := by
  have hne : ((y : Int) == 0) = false := by rw [beq_eq_false_iff_ne]; omega
  have hd : x / y ≤ x := Nat.div_le_self x y
  have e : ((x : Int).tdiv (y : Int)) = ((x / y : Nat) : Int) := by rw [Int.tdiv_eq_ediv_of_nonneg (by omega)]; rfl
  have h' : (binOp .quo 3 (.int .i64 (x : Int)) (.int .i64 (y : Int))).run Tryd.prog W = .ok (.int .i64 (IntKind.i64.wrap ((x : Int).tdiv (y : Int)))) W := by
    go_simp
    omega
  rw [h', e]
  generalize x / y = q at *
  rw [IntWalk.i64_in _ (by omega)]
theorem rem64 {x y : Nat} {W : World} (h0 : 0 < y) (hx : x < 9223372036854775808) (hy : y < 9223372036854775808) : (binOp .rem 2 (.int .i64 (x : Int)) (.int .i64 (y : Int))).run Tryd.prog W = .ok (.int .i64 ((x % y : Nat) : Int)) W := by
  have hne : ((y : Int) == 0) = false := by rw [beq_eq_false_iff_ne]; omega
  have e : ((x : Int).tmod (y : Int)) = ((x % y : Nat) : Int) := by rw [Int.tmod_eq_emod_of_nonneg (by omega)]; rfl
  go_simp
  omega
theorem fdiv_pow (x k : Nat) : (x : Int).fdiv (2 ^ k) = ((x / 2 ^ k : Nat) : Int) := by
  rw [Int.fdiv_eq_ediv_of_nonneg _ (Int.pow_nonneg (by decide))]
  simp
theorem shr64 {x k : Nat} (hk : k ≤ 64) {W : World} : (binOp .shr 2 (.int .i64 (x : Int)) (.int .i64 (k : Int))).run Tryd.prog W = .ok (.int .i64 ((x / 2 ^ k : Nat) : Int)) W := by
  have h' : (binOp .shr 2 (.int .i64 (x : Int)) (.int .i64 (k : Int))).run Tryd.prog W = (Op.shift .shr .i64 (x : Int) .i64 (k : Int)).run Tryd.prog W := by kernel_rfl
  have hm : min (k : Int).toNat IntKind.i64.bits = k := by show min (k : Int).toNat 64 = k; omega
  rw [h']
  unfold Op.shift
  rw [if_neg (by omega)]
  simp only [hm, Sem.run_pure]
  rw [fdiv_pow]
theorem shrU {x k : Nat} (hk : k ≤ 64) {W : World} : (binOp .shr 2 (.int .i64 (x : Int)) (.int .u64 (k : Int))).run Tryd.prog W = .ok (.int .i64 ((x / 2 ^ k : Nat) : Int)) W := by
  have h' : (binOp .shr 2 (.int .i64 (x : Int)) (.int .u64 (k : Int))).run Tryd.prog W = (Op.shift .shr .i64 (x : Int) .u64 (k : Int)).run Tryd.prog W := by kernel_rfl
  have hm : min (k : Int).toNat IntKind.i64.bits = k := by show min (k : Int).toNat 64 = k; omega
  rw [h']
  unfold Op.shift
  rw [if_neg (by omega)]
  simp only [hm, Sem.run_pure]
  rw [fdiv_pow]
theorem and64_1 {y : Nat} (hy : y < 9223372036854775808) {W : World} : (binOp .and 2 (.int .i64 (y : Int)) (.int .i64 1)).run Tryd.prog W = .ok (.int .i64 ((y % 2 : Nat) : Int)) W := by
  have h' : (binOp .and 2 (.int .i64 (y : Int)) (.int .i64 1)).run Tryd.prog W = .ok (.int .i64 (bits .and .i64 (y : Int) 1)) W := by kernel_rfl
  have e : bits .and .i64 (y : Int) 1 = ((y % 2 : Nat) : Int) := by
    show IntKind.i64.wrap ((BitVec.ofInt 64 (y : Int) &&& BitVec.ofInt 64 ((1 : Nat) : Int)).toNat : Int) = _
    rw [BitVec.toNat_and, ofInt_u64 _ (by omega), ofInt_u64 _ (by decide), nat_mask1]
    exact Lib.wrap_i64_small _ (by omega)
  rw [h', e]
def Sec.bit (k : Nat) : UInt8 := 1 <<< UInt8.ofNat k
theorem shl8 {k : Nat} (hk : k < 8) {W : World} : (binOp .shl 5 (.int .u8 1) (.int .i64 (k : Int))).run Tryd.prog W = .ok (.int .u8 ((Sec.bit k).toNat : Int)) W := by
  rcases k with _ | _ | _ | _ | _ | _ | _ | _ | k
  · kernel_rfl
  · kernel_rfl
  · kernel_rfl
  · kernel_rfl
  · kernel_rfl
  · kernel_rfl
  · kernel_rfl
  · kernel_rfl
  · omega
theorem shl8u {k : Nat} (hk : k < 8) {W : World} : (binOp .shl 5 (.int .u8 1) (.int .u64 (k : Int))).run Tryd.prog W = .ok (.int .u8 ((Sec.bit k).toNat : Int)) W := by
  rcases k with _ | _ | _ | _ | _ | _ | _ | _ | k
  · kernel_rfl
  · kernel_rfl
  · kernel_rfl
  · kernel_rfl
  · kernel_rfl
  · kernel_rfl
  · kernel_rfl
  · kernel_rfl
  · omega
theorem xor8 {x y : UInt8} {W : World} : (binOp .xor 5 (.int .u8 (x.toNat : Int)) (.int .u8 (y.toNat : Int))).run Tryd.prog W = .ok (.int .u8 ((x ^^^ y).toNat : Int)) W := by
  have h' : (binOp .xor 5 (.int .u8 (x.toNat : Int)) (.int .u8 (y.toNat : Int))).run Tryd.prog W = .ok (.int .u8 (bits .xor .u8 (x.toNat : Int) (y.toNat : Int))) W := by kernel_rfl
  have hx := x.toNat_lt
  have hy := y.toNat_lt
  rw [h', u8_xor_nat _ _ (by omega) (by omega), UInt8.toNat_xor]
theorem store8 {b o : Nat} {x : Int} {v : Value} {W : World} (hc : W.cell? ⟨b, o, none⟩ = some v) (hf : W.frozen? ⟨b, o, none⟩ = false) : (Instr.storeAt 5 (.pointer (some ⟨b, o, none⟩)) (.int .u8 x)).run Tryd.prog W = .ok () (W.setCell ⟨b, o, none⟩ (.int .u8 x)) := by
  go_simp
theorem hC_put (h : List UInt8) (k : Nat) (c : UInt8) (hk : k < h.length) (hl : h.length = 32) : (hC h).setIfInBounds k (byteV c) = hC (h.set k c) := by
  rw [hC_full h hl, hC_full (h.set k c) (by simpa using hl), List.setIfInBounds_toArray, List.map_set]
theorem Sec.flip_eq (h : List UInt8) (b : Nat) (hl : h.length = 32) (hb : b < 256) : Sec.flip h b = h.set (b / 8) (h[b / 8]'(by omega) ^^^ Sec.bit (b % 8)) := by
  unfold Sec.flip Sec.bit
  rw [List.getD_eq_getElem?_getD, List.getElem?_eq_getElem (by omega)]
  rfl
set_option maxHeartbeats 1000000 in
set_option maxRecDepth 100000 in
theorem flip_any (g q : Nat) (h : List UInt8) (b : Nat) (w : World) (hl : h.length = 32) (hb : b < 256) (hr : Row w g 23 (hC h)) (hq : w.cell? ⟨q, 0, none⟩ = some (.int .i64 (b : Int))) (hqg : q ≠ g) :
    Calls Tryd.prog 50 #[.pointer (some ⟨g, 0, none⟩), .slice (some ⟨q, 0, none⟩) 1 1] w fun e w' => e = .returned (.tuple #[]) ∧ Row w' g 23 (hC (Sec.flip h b)) ∧ w.grownBy w' (some g) := by
  have hx := hC_get h (b / 8) (by omega) (by omega)
  have hfe := Sec.flip_eq h b hl hb
  generalize hxv : h[b / 8]'(by omega) = xv at *
  have hput := hC_put h (b / 8) (xv ^^^ Sec.bit (b % 8)) (by omega) hl
  rw [← hfe] at hput
  have HP := Lib.hid hput
  have HX := Lib.hid hx
  have HL := Lib.hid hl
  clear hput hfe hxv hx hl
  go_enter Tryd.func50, Tryd.ntmps50
  go_wp2
  go_loopw [8] (fun t wr => (t = .int .i64 0 ∧ wr = w) ∨ (t = .int .i64 1 ∧ Row wr g 23 (hC (Sec.flip h b)) ∧ w.grownBy wr (some g))) (fun t _ => 1 - (intOf t).toNat)
  case atStart => exact .inl ⟨rfl, rfl⟩
  case round =>
    rcases hrel with ⟨rfl, rfl⟩ | ⟨rfl, hrow, hgr⟩
    · go_upto_region 3 with fail
      refine (wpIn_wide (n := 0)).1 ?_
      refine wpIn_region_last wide_wide [Pr.eq (.pointer (some ⟨g, 0, none⟩)), Pr.eq (.int .i64 (b : Int)), Pr.eq (.int .i64 ((b / 8 : Nat) : Int)), Pr.eq (.pointer (some ⟨g, 0, none⟩)), Pr.eq (.pointer (some ⟨g, b / 8, none⟩)), Pr.eq (.int .u8 (xv.toNat : Int)), Pr.eq (.int .i64 (b : Int)), Pr.eq (.int .i64 ((b % 8 : Nat) : Int)), Pr.eq (.int .u8 ((Sec.bit (b % 8)).toNat : Int)), Pr.eq (.int .u8 ((xv ^^^ Sec.bit (b % 8)).toNat : Int)), Pr.eq (.pointer (some ⟨g, 0, none⟩)), Pr.eq (.pointer (some ⟨g, b / 8, none⟩))] (by kernel_rfl) (by kernel_rfl) (by kernel_rfl) (by kernel_rfl) (by kernel_rfl) (by kernel_rfl) rfl ⟨?_, ?_, ?_, ?_, ?_, ?_, ?_, ?_, ?_, ?_, ?_, ?_, trivial⟩ ?_
      · exact fun ac W hL he => stepOk_want rfl (op_move rfl (he.keep (.tmp 0) (by kernel_rfl)))
      · exact fun ac W hL he => stepOk_want rfl (op_move rfl (he.keep (.tmp 5) (by kernel_rfl)))
      · exact fun ac W hL he => stepOk_want rfl (op_binOp rfl (he.get 1 13 (by kernel_rfl) rfl) rfl (eqg_any rfl) (quoI (y := 8) (by decide) (by omega) (by decide)) rfl)
      · exact fun ac W hL he => stepOk_want rfl (op_nil rfl (he.get 0 12 (by kernel_rfl) rfl) rfl)
      · exact fun ac W hL he => stepOk_want rfl (op_idx rfl (he.get 3 15 (by kernel_rfl) rfl) (he.get 2 14 (by kernel_rfl) rfl) (idxHp (by omega)) rfl)
      · exact fun ac W hL he => stepOk_want rfl (op_load rfl (he.get 4 16 (by kernel_rfl) rfl) (load8 (((hr.later hL).cell (b / 8)).trans HX.out)) rfl)
      · exact fun ac W hL he => stepOk_want rfl (op_move rfl (he.keep (.tmp 5) (by kernel_rfl)))
      · exact fun ac W hL he => stepOk_want rfl (op_binOp rfl (he.get 6 18 (by kernel_rfl) rfl) rfl (eqg_any rfl) (remI (y := 8) (by decide) (by omega) (by decide)) rfl)
      · exact fun ac W hL he => stepOk_want rfl (op_binOp rfl rfl (he.get 7 19 (by kernel_rfl) rfl) (eqg_any rfl) (shl8 (by omega)) rfl)
      · exact fun ac W hL he => stepOk_want rfl (op_binOp rfl (he.get 5 17 (by kernel_rfl) rfl) (he.get 8 20 (by kernel_rfl) rfl) (eqg_any rfl) xor8 rfl)
      · exact fun ac W hL he => stepOk_want rfl (op_nil rfl (he.get 0 12 (by kernel_rfl) rfl) rfl)
      · exact fun ac W hL he => stepOk_want rfl (op_idx rfl (he.get 10 22 (by kernel_rfl) rfl) (he.get 2 14 (by kernel_rfl) rfl) (idxHp (by omega)) rfl)
      · intro xs W hL hx hk hg
        have e1 := hg 11 23 (by decide) (by kernel_rfl)
        have e2 := hg 9 21 (by decide) (by kernel_rfl)
        have v1 : xs 11 = .pointer (some ⟨g, b / 8, none⟩) := hx 11 (by decide)
        have v2 : xs 9 = .int .u8 ((xv ^^^ Sec.bit (b % 8)).toNat : Int) := hx 9 (by decide)
        rw [v1] at e1
        rw [v2] at e2
        have hr1 := hr.later hL
        refine last_store rfl rfl e1 e2 (store8 ((hr1.cell (b / 8)).trans HX.out) (hr1.frozen _)) ?_
        have hr2 := hr1.set (b / 8) (byteV (xv ^^^ Sec.bit (b % 8)))
        rw [HP.out] at hr2
        have hg2 := grown_trans (grown_weak hL g) (grown_set W g (b / 8) (byteV (xv ^^^ Sec.bit (b % 8))))
        clear hx hk hg e1 e2 v1 v2
        simp only [initL, putL, Nat.reduceAdd, Act.put, List.setIfInBounds_toArray, List.set_cons_succ, List.set_cons_zero]
        go_wp2
        go_roundw
        case rel => exact .inr ⟨rfl, hr2, hg2⟩
        case measure => simp [intOf]
    · go_wp2
      go_end0
      exact ⟨rfl, hrow, hgr⟩
end Go.Proofs.YthabgfghogdkcaaDoor
