/- Walks, secrets: Get, Next, Same. -/
import Derived.Test.YthabgfghogdkcaaDoorSc7b
set_option linter.unusedVariables false
set_option linter.unusedSimpArgs false
namespace Go.Proofs.YthabgfghogdkcaaDoor
open Go.RowKit
theorem last2_store {P : Program} {Q : Exit → Act → World → Prop} {o y : Oper} {a : Act} {W W' : World} {t : TypeId} {p v z : Operand} {vp vv : Value} (ho : o.op = .store t p v) (hd : o.dst = none) (hp : a.eval p = vp) (hv : a.eval v = vv) (hr : (Instr.storeAt t vp vv).run P W = .ok () W') (hy : y.op = .assign z) (h : Q .normal (a.put y.dst (a.eval z)) W') : LastOk2 P o y a W Q :=
  ⟨op_storeK (K := fun a' W' => y.wp P a' W' (fun a W => Q .normal a W) Q) ho hp hv hr (by rw [hd]; exact op_assignK (K := fun a W => Q .normal a W) hy h)⟩
theorem shl64 {x k : Nat} (hk : k ≤ 64) (hx : x * 2 ^ k < 9223372036854775808) {W : World} : (binOp .shl 2 (.int .i64 (x : Int)) (.int .i64 (k : Int))).run Tryd.prog W = .ok (.int .i64 ((x * 2 ^ k : Nat) : Int)) W := by
  have h' : (binOp .shl 2 (.int .i64 (x : Int)) (.int .i64 (k : Int))).run Tryd.prog W = (Op.shift .shl .i64 (x : Int) .i64 (k : Int)).run Tryd.prog W := by kernel_rfl
  have hm : min (k : Int).toNat IntKind.i64.bits = k := by show min (k : Int).toNat 64 = k; omega
  have e : (x : Int) * 2 ^ k = ((x * 2 ^ k : Nat) : Int) := by simp
  rw [h']
  unfold Op.shift
  rw [if_neg (by omega)]
  simp only [hm, Sem.run_pure]
  rw [e, IntWalk.i64_in _ (by omega)]
theorem eql64 {x y : Nat} {W : World} : (binOp .eql 2 (.int .i64 (x : Int)) (.int .i64 (y : Int))).run Tryd.prog W = .ok (.bool (decide (x = y))) W := by
  have h' : (binOp .eql 2 (.int .i64 (x : Int)) (.int .i64 (y : Int))).run Tryd.prog W = .ok (.bool ((x : Int) == (y : Int))) W := by kernel_rfl
  rw [h']
  congr 2
  by_cases h : x = y
  · subst h; simp
  · rw [decide_eq_false h, beq_eq_false_iff_ne]; omega
theorem eqg64 {x y : Operand} {a b : Int} {W : World} : (eqGuard .eql 2 x y (.int .i64 a) (.int .i64 b)).run Tryd.prog W = .ok () W := by kernel_rfl
/-- Does a place's index stand for this one? -/
def Sec.hit (ix : Nat → Nat) (x p : Nat) : Bool := decide (ix p = x / 2 ^ Sec.place (ix p) * 2 ^ Sec.place (ix p))
theorem Sec.findAt_spec (f : Nat → Nat) (x : Nat) : ∀ (n p a : Nat), Sec.findAt f x n p = a → a < p + n → Sec.hit f x a = true ∧ ∀ k, p ≤ k → k < a → Sec.hit f x k = false
  | 0, p, a, h, hl => by unfold Sec.findAt at h; omega
  | n + 1, p, a, h, hl => by
    unfold Sec.findAt at h
    by_cases hc : f p = x / 2 ^ Sec.place (f p) * 2 ^ Sec.place (f p)
    · rw [if_pos hc] at h
      subst h
      exact ⟨by unfold Sec.hit; exact decide_eq_true hc, fun k h1 h2 => by omega⟩
    · rw [if_neg hc] at h
      obtain ⟨h1, h2⟩ := Sec.findAt_spec f x n (p + 1) a h (by omega)
      refine ⟨h1, fun k hk hka => ?_⟩
      by_cases e : k = p
      · subst e; unfold Sec.hit; exact decide_eq_false hc
      · exact h2 k (by omega) hka
theorem boxP (i : Nat) (s : List UInt8) (hs : s.length ≤ 32) (w : World) : (Instr.box 57 (.agg (ptC i s))).run Tryd.prog w = .ok (.pointer (some ⟨w.heap.size, 0, none⟩)) (w.alloc (.cells (ptC i s) 57)) := run_box_row w _ _ (by rw [ptC_size _ _ hs]; exact infoP)
set_option maxHeartbeats 2000000 in
set_option maxRecDepth 100000 in
theorem getFn_any (ix : Nat → Nat) (p : Nat) (s : List UInt8) (q x : Nat) (w : World) (hT : Tabs w) (hs : s.length = 32) (hi : ix p < 2147483648) (hx : x < 2147483648) (hq : w.cell? ⟨q, 0, none⟩ = some (.int .i64 (x : Int))) :
    Calls Tryd.prog 33 #[.agg (ptC (ix p) s), .pointer (some ⟨q, 0, none⟩)] w fun e w' => e = .returned (.bool (Sec.hit ix x p)) ∧ Below w.heap.size w w' := by
  have hbx := boxP (ix p) s (Nat.le_of_eq hs)
  have hqr := Row.new w 57 (ptC (ix p) s)
  have hb := below_new w (.cells (ptC (ix p) s) 57)
  have hL : Later w (w.alloc (.cells (ptC (ix p) s) 57)) := hb
  have hq1 := hL.cell hq
  have hT1 := hT.later hL
  have hpl := fun W hT => place_any (ix p) (by omega) W hT
  have hp31 := Sec.place_le (ix p)
  have hht : Sec.hit ix x p = decide (ix p = x / 2 ^ Sec.place (ix p) * 2 ^ Sec.place (ix p)) := rfl
  rw [hht]
  have hmul : x / 2 ^ Sec.place (ix p) * 2 ^ Sec.place (ix p) ≤ x := Nat.div_mul_le_self _ _
  generalize Sec.place (ix p) = pl at *
  generalize ix p = i at *
  have HM := Lib.hid hmul
  clear hht hmul hq hT hs
  go_enter Tryd.func33, Tryd.ntmps33
  go_upto_region 1 with (first
    | (guard_target =~ wpList _ _ _ (_ :: _) _ _; refine wpList_box rfl 57 (.tmp 0) rfl (.agg (ptC i s)) rfl (hbx _) ?_)
    | fail)
  obtain ⟨q2, hq2⟩ : ∃ q2, q2 = w.heap.size := ⟨_, rfl⟩
  rw [← hq2] at hqr ⊢
  generalize w.alloc (.cells (ptC i s) 57) = w1 at *
  have hc : w1.cell? ⟨q2, 0, none⟩ = some (.int .i64 (i : Int)) := (hqr.cell 0).trans (ptC_ix _ _)
  have hpl := hpl w1 hT1
  clear hbx hq2
  go_upto_region 2 with (first
    | (go_at_call 30; refine hpl.mono ?_; clear hpl; rintro e w2 ⟨rfl, rfl⟩)
    | fail)
  refine (wpIn_wide (n := 0)).1 ?_
  clear hc
  refine wpIn_region_vals wide_wide [Pr.eq (.pointer (some ⟨q2, 0, none⟩)), Pr.eq (.int .i64 (i : Int)), Pr.eq (.int .i64 (x : Int)), Pr.eq (.int .i64 (pl : Int)), Pr.eq (.int .i64 ((x / 2 ^ pl : Nat) : Int)), Pr.eq (.int .i64 (pl : Int)), Pr.eq (.int .i64 ((x / 2 ^ pl * 2 ^ pl : Nat) : Int)), Pr.eq (.bool (decide (i = x / 2 ^ pl * 2 ^ pl))), Pr.eq (.bool (decide (i = x / 2 ^ pl * 2 ^ pl)))] (by kernel_rfl) (by kernel_rfl) (by kernel_rfl) (by kernel_rfl) (by kernel_rfl) ⟨?_, ?_, ?_, ?_, ?_, ?_, ?_, ?_, ?_, trivial⟩ ?_
  · exact fun ac W hL he => stepOk_want rfl (op_fieldAddr rfl (he.keep (.tmp 2) (by kernel_rfl)) fieldKept0 rfl)
  · exact fun ac W hL he => stepOk_want rfl (op_load rfl (he.get 0 8 (by kernel_rfl) rfl) (loadI64 (((hqr.later hL).cell 0).trans (ptC_ix _ _))) rfl)
  · exact fun ac W hL he => stepOk_want rfl (op_load rfl (he.keep (.tmp 1) (by kernel_rfl)) (loadI64 (hL.cell hq1)) rfl)
  · exact fun ac W hL he => stepOk_want rfl (op_move rfl (he.keep (.tmp 4) (by kernel_rfl)))
  · exact fun ac W hL he => stepOk_want rfl (op_binOp rfl (he.get 2 10 (by kernel_rfl) rfl) (he.get 3 11 (by kernel_rfl) rfl) (eqg_any rfl) (shr64 (by omega)) rfl)
  · exact fun ac W hL he => stepOk_want rfl (op_move rfl (he.keep (.tmp 4) (by kernel_rfl)))
  · exact fun ac W hL he => stepOk_want rfl (op_binOp rfl (he.get 4 12 (by kernel_rfl) rfl) (he.get 5 13 (by kernel_rfl) rfl) (eqg_any rfl) (shl64 (by omega) (by have := HM.out; omega)) rfl)
  · exact fun ac W hL he => stepOk_want rfl (op_binOp rfl (he.get 1 9 (by kernel_rfl) rfl) (he.get 6 14 (by kernel_rfl) rfl) eqg64 eql64 rfl)
  · exact fun ac W hL he => stepOk_want rfl (op_assign rfl (he.get 7 15 (by kernel_rfl) rfl))
  intro xs W hL2 hxs
  have h8 : xs 8 = .bool (decide (i = x / 2 ^ pl * 2 ^ pl)) := hxs 8 (by decide)
  clear hxs
  simp only [putL, Nat.reduceAdd, Act.put, List.setIfInBounds_toArray, List.set_cons_succ, List.set_cons_zero, h8]
  have hb2 : Below w.heap.size w W := hb.trans (hL2.mono hb.size)
  obtain ⟨z, hz⟩ : ∃ z, decide (i = x / 2 ^ pl * 2 ^ pl) = z := ⟨_, rfl⟩
  have HZ := Lib.hid hz
  rw [hz]
  clear h8 hz
  go_wp2_with fail
  go_ret
  exact ⟨by rw [HZ.out]; rfl, hb2⟩
set_option maxHeartbeats 2000000 in
set_option maxRecDepth 100000 in
theorem indexFn_any (g q x a : Nat) (n : Int) (ix : Nat → Nat) (sc : Nat → List UInt8) (w : World) (hT : Tabs w) (hk : IsKeep w g n ix sc) (hx : x < 2147483648) (hq : w.cell? ⟨q, 0, none⟩ = some (.int .i64 (x : Int))) (ha : a < 32) (hit : Sec.hit ix x a = true) (hno : ∀ k, k < a → Sec.hit ix x k = false) :
    Calls Tryd.prog 32 #[.slice (some ⟨g, 1, none⟩) 32 32, .func (.func 33) #[] #[.pointer (some ⟨q, 0, none⟩)]] w fun e w' => e = .returned (.int .i64 (a : Int)) ∧ Below w.heap.size w w' := by
  have HK := Lib.hid hk
  have HT := Lib.hid hT
  have HQ := Lib.hid hq
  have HIT := Lib.hid hit
  have HNO := Lib.hid hno
  clear hk hT hq hit hno
  go_enter Tryd.func32, Tryd.ntmps32
  go_wp2
  go_loopw [8] (fun t wr => ∃ k : Nat, k ≤ a ∧ t = .int .i64 k ∧ Below w.heap.size w wr) (fun t _ => 32 - (intOf t).toNat)
  case atStart => exact ⟨0, by omega, rfl, Below.refl _ _⟩
  case round =>
    obtain ⟨k, hka, rfl, hb⟩ := hrel
    have hL : Later w wr := hb
    have hrow := HK.out.row.belowAll hb
    have hkl : (sc k).length = 32 := HK.out.len k
    have hld := loadPlace hrow (show k < 32 by omega) (Nat.le_of_eq hkl)
    have hfn := getFn_any ix k (sc k) q x wr (HT.out.later hL) hkl (HK.out.lim k) hx (hL.cell HQ.out)
    have hlt : (k : Int) < 32 := by omega
    have HKL := Lib.hid hkl
    clear hkl
    by_cases hlt2 : k < a
    · rw [HNO.out k hlt2] at hfn
      have HFN := Lib.hid hfn
      clear hfn
      go_wp2_with (first
        | (guard_target =~ wpList _ _ _ (_ :: _) _ _; refine wpList_idx rfl 66 (.tmp 12) (.tmp 13) rfl (.slice (some ⟨g, 1, none⟩) 32 32) (.int .i64 (k : Int)) rfl rfl (idxKeptS (by omega) (by omega)) ?_)
        | (guard_target =~ wpList _ _ _ (_ :: _) _ _; refine wpList_load rfl 57 (.tmp 14) rfl (.pointer (some ⟨g, 1 + 33 * k, none⟩)) rfl hld ?_)
        | (go_at_call 33; refine HFN.out.mono ?_; rintro e w2 ⟨rfl, hb2⟩)
        | fail)
      go_roundw
      case rel => exact ⟨k + 1, by omega, by go_num, hb.trans (hb2.mono hb.size)⟩
      case measure => simp [intOf]; omega
    · obtain rfl : k = a := by omega
      rw [HIT.out] at hfn
      have HFN := Lib.hid hfn
      clear hfn
      go_wp2_with (first
        | (guard_target =~ wpList _ _ _ (_ :: _) _ _; refine wpList_idx rfl 66 (.tmp 12) (.tmp 13) rfl (.slice (some ⟨g, 1, none⟩) 32 32) (.int .i64 (k : Int)) rfl rfl (idxKeptS (by omega) (by omega)) ?_)
        | (guard_target =~ wpList _ _ _ (_ :: _) _ _; refine wpList_load rfl 57 (.tmp 14) rfl (.pointer (some ⟨g, 1 + 33 * k, none⟩)) rfl hld ?_)
        | (go_at_call 33; refine HFN.out.mono ?_; rintro e w2 ⟨rfl, hb2⟩)
        | fail)
      go_ret
      exact ⟨rfl, hb.trans (hb2.mono hb.size)⟩
theorem next_any (g : Nat) (n : Int) (ix : Nat → Nat) (sc : Nat → List UInt8) (w : World) (hr : Row w g 60 (kC n ix sc true)) : Calls Tryd.prog 22 #[.pointer (some ⟨g, 0, none⟩)] w fun e w' => w' = w ∧ e = .returned (.int .i64 n) := by
  have hc : w.cell? ⟨g, 0, none⟩ = some (.int .i64 n) := (hr.cell 0).trans (kC_n _ _ _ _)
  go_enter Tryd.func22, Tryd.ntmps22
  go_wp2_with (first
    | (go_at_call 27; refine (knone_no g n ix sc _ hr).mono ?_; rintro e w2 ⟨rfl, rfl⟩)
    | fail)
  go_ret
  exact ⟨rfl, rfl⟩
end Go.Proofs.YthabgfghogdkcaaDoor
