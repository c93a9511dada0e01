/- Walks: the document's press of a state with a block. -/
import Derived.Test.YtfconncnccgenaaShaP1
import Derived.Test.YtfconncnccgenaaShaR2
import Derived.Test.YtfconncnccgenaaAgg
import Derived.Deep.DeepCutAuto
import Derived.StillTailTactics
import Derived.Deep.QuietTactic
set_option linter.unusedVariables false
set_option linter.unusedSimpArgs false
namespace Go.Proofs.Ytfconncnccgenaa
open Go.RowKit
set_option maxRecDepth 100000 in
theorem refK_any (w : World) : Calls Try.prog 40 #[] w fun e w' => e = .returned (.agg kCells) ∧ Below w.heap.size w w' := by
  go_enter Try.func40, Try.ntmps40
  go_wp2_with (first
    | (with_reducible refine wpList_alloc rfl 72 rfl (alloc64 _) ?_)
    | (refine wpList_buildC rfl 72 _ rfl kParts (by kernel_rfl) (buildK _) ?_)
    | (refine wpList_store rfl 72 (.tmp 0) (.tmp 1) rfl (.pointer (some ⟨w.heap.size, 0, none⟩)) (.agg kCells) rfl rfl (storeK _) ?_))
  refine bodyPost_ret (results_cell_row rfl _ _ w.heap.size 72 kCells (0, 0) _ rfl (Row.new w 72 kCells) Try.underlying72 rfl (by rw [kCells_size]; exact info64)) rfl ⟨rfl, below_new w _⟩
theorem refFirst_any (w : World) : Calls Try.prog 31 #[] w fun e w' => e = .returned (.agg (stC Sha.first 0)) ∧ w.alloc (.cells (stC Sha.first 0) 41) = w' := by
  go_enter Try.func31, Try.ntmps31
  go_wp2_with (first
    | (with_reducible refine wpList_alloc rfl 41 rfl (alloc8 _) ?_)
    | (refine wpList_buildC rfl 41 _ rfl firstParts (by kernel_rfl) (buildFirst _) ?_)
    | (refine wpList_store rfl 41 (.tmp 0) (.tmp 1) rfl (.pointer (some ⟨w.heap.size, 0, none⟩)) (.agg (stC Sha.first 0)) rfl rfl (storeS Sha.first _) ?_))
  refine bodyPost_ret (results_cell_row rfl _ _ w.heap.size 41 (stC Sha.first 0) (0, 0) _ rfl (Row.new w 41 (stC Sha.first 0)) Try.underlying41 rfl (by rw [stC_size]; exact info8)) rfl ⟨rfl, rfl⟩
/- four bytes as a word -/
theorem be_step (x : BitVec 32) (c : UInt8) (h : x.toNat < 16777216) : ((x <<< 8) ||| Sha.zx c).toNat = x.toNat * 256 + c.toNat := by
  have hc := c.toNat_lt
  have hz : (Sha.zx c).toNat = c.toNat := by have := zxv c; omega
  have h2 : x.toNat <<< 8 < 2 ^ 32 := by rw [Nat.shiftLeft_eq]; omega
  rw [BitVec.toNat_or, BitVec.toNat_shiftLeft, hz, Nat.mod_eq_of_lt h2, ← Nat.shiftLeft_add_eq_or_of_lt (by omega), Nat.shiftLeft_eq]
theorem be_four (a b c d : UInt8) : (Sha.be [a, b, c, d]).toNat = a.toNat * 16777216 + b.toNat * 65536 + c.toNat * 256 + d.toNat := by
  have ha := a.toNat_lt
  have hb := b.toNat_lt
  have hc := c.toNat_lt
  have hd := d.toNat_lt
  have e1 := be_step 0#32 a (by decide)
  have e2 := be_step ((0#32 <<< 8) ||| Sha.zx a) b (by rw [e1]; simp; omega)
  have e3 := be_step ((((0#32 <<< 8) ||| Sha.zx a) <<< 8) ||| Sha.zx b) c (by rw [e2, e1]; simp; omega)
  have e4 := be_step ((((((0#32 <<< 8) ||| Sha.zx a) <<< 8) ||| Sha.zx b) <<< 8) ||| Sha.zx c) d (by rw [e3, e2, e1]; simp; omega)
  have e : Sha.be [a, b, c, d] = ((((((((0#32 <<< 8) ||| Sha.zx a) <<< 8) ||| Sha.zx b) <<< 8) ||| Sha.zx c) <<< 8) ||| Sha.zx d) := rfl
  rw [e, e4, e3, e2, e1]
  simp
  omega
theorem wd_four (l : List UInt8) (t : Nat) (h : 4 * t + 4 ≤ l.length) : (Sha.wd l t).toNat = (l[4 * t]'(by omega)).toNat * 16777216 + (l[4 * t + 1]'(by omega)).toNat * 65536 + (l[4 * t + 2]'(by omega)).toNat * 256 + (l[4 * t + 3]'(by omega)).toNat := by
  have e : (l.drop (4 * t)).take 4 = [l[4 * t]'(by omega), l[4 * t + 1]'(by omega), l[4 * t + 2]'(by omega), l[4 * t + 3]'(by omega)] := by
    rw [List.drop_eq_getElem_cons (by omega), List.drop_eq_getElem_cons (by omega), List.drop_eq_getElem_cons (by omega), List.drop_eq_getElem_cons (by omega)]
    rfl
  unfold Sha.wd
  rw [e, be_four]
theorem bytes_get (l : List UInt8) (i : Nat) (h : i < l.length) : (l.map byteV).toArray[i]? = some (byteV l[i]) := by simp [h]
theorem word_sum (q0 q1 q2 q3 : UInt8) (x : BitVec 32) (h : x.toNat = q0.toNat * 16777216 + q1.toNat * 65536 + q2.toNat * 256 + q3.toNat) :
    IntKind.u32.wrap (IntKind.u32.wrap (IntKind.u32.wrap (IntKind.u32.wrap (IntKind.u32.wrap (q0.toNat : Int) * 16777216) + IntKind.u32.wrap (IntKind.u32.wrap (q1.toNat : Int) * 65536)) + IntKind.u32.wrap (IntKind.u32.wrap (q2.toNat : Int) * 256)) + IntKind.u32.wrap (q3.toNat : Int)) = (x.toNat : Int) := by
  have b0 := q0.toNat_lt
  have b1 := q1.toNat_lt
  have b2 := q2.toNat_lt
  have b3 := q3.toNat_lt
  simp only [IntKind.wrap_u32']
  omega
theorem refR_s1 (x : BitVec 32) (w : World) : Calls Try.prog 39 #[.int .u32 (x.toNat : Int), .int .i64 17, .int .i64 19, .int .i64 10] w fun e w' => e = .returned (.int .u32 ((Sha.s1 x).toNat : Int)) ∧ w' = w :=
  (refR_any x 17 19 10 (by decide) (by decide) (by decide) (by decide) (by decide) w).mono fun e w' ⟨h1, h2⟩ => ⟨h1, h2.symm⟩
theorem refR_s0 (x : BitVec 32) (w : World) : Calls Try.prog 39 #[.int .u32 (x.toNat : Int), .int .i64 7, .int .i64 18, .int .i64 3] w fun e w' => e = .returned (.int .u32 ((Sha.s0 x).toNat : Int)) ∧ w' = w :=
  (refR_any x 7 18 3 (by decide) (by decide) (by decide) (by decide) (by decide) w).mono fun e w' ⟨h1, h2⟩ => ⟨h1, h2.symm⟩
theorem refS_S1 (x : BitVec 32) (w : World) : Calls Try.prog 41 #[.int .u32 (x.toNat : Int), .int .i64 6, .int .i64 11, .int .i64 25] w fun e w' => e = .returned (.int .u32 ((Sha.S1 x).toNat : Int)) ∧ w' = w :=
  (refS_any x 6 11 25 (by decide) (by decide) (by decide) (by decide) (by decide) (by decide) w).mono fun e w' ⟨h1, h2⟩ => ⟨h1, h2.symm⟩
theorem refS_S0 (x : BitVec 32) (w : World) : Calls Try.prog 41 #[.int .u32 (x.toNat : Int), .int .i64 2, .int .i64 13, .int .i64 22] w fun e w' => e = .returned (.int .u32 ((Sha.S0 x).toNat : Int)) ∧ w' = w :=
  (refS_any x 2 13 22 (by decide) (by decide) (by decide) (by decide) (by decide) (by decide) w).mono fun e w' ⟨h1, h2⟩ => ⟨h1, h2.symm⟩
theorem most_q (a b c : BitVec 32) (w : World) : Calls Try.prog 43 #[.int .u32 (a.toNat : Int), .int .u32 (b.toNat : Int), .int .u32 (c.toNat : Int)] w fun e w' => e = .returned (.int .u32 ((Sha.maj a b c).toNat : Int)) ∧ w' = w :=
  (most_any a b c w).mono fun e w' ⟨h1, h2⟩ => ⟨h1, h2.symm⟩
theorem picked_q (a b c : BitVec 32) (w : World) : Calls Try.prog 42 #[.int .u32 (a.toNat : Int), .int .u32 (b.toNat : Int), .int .u32 (c.toNat : Int)] w fun e w' => e = .returned (.int .u32 ((Sha.ch a b c).toNat : Int)) ∧ w' = w :=
  (picked_any a b c w).mono fun e w' ⟨h1, h2⟩ => ⟨h1, h2.symm⟩
theorem still_q {P : Program} {f : FuncId} {args : Array Value} {v : Value} (c : ∀ W : World, Calls P f args W fun e w' => e = .returned v ∧ w' = W) {w : World} {a n : Nat} :
    Calls P f args (w.drewN (a + n)) fun e w'' => e = .returned v ∧ ∃ m, w'' = w.drewN (a + m) := (c _).mono fun _ _ h => ⟨h.1, n, h.2⟩
def wordsC (l : List UInt8) (k : Nat) : Array Value := fillTo 64 (.int .u32 0) (fun j => wordV (Sha.M (Sha.wd l) j)) k
theorem infoB64 : (Try.prog.info? 42).map (·.size) = some 64 := by kernel_rfl
set_option maxHeartbeats 4000000 in
set_option maxRecDepth 100000 in
theorem refPress_any (x : Sha.St) (l : List UInt8) (w : World) (hl : l.length = 64) :
    Calls Try.prog 20 #[.agg (stC x 0), .agg (l.map byteV).toArray] w fun e w' => e = .returned (.agg (stC (Sha.blk x l) 0)) ∧ Below w.heap.size w w' := by
  have hb1 := run_box_row (P := Try.prog) w 41 (stC x 0) (by rw [stC_size]; exact info8)
  have hb2 := fun w : World => run_box_row (P := Try.prog) w 42 (l.map byteV).toArray (by rw [List.size_toArray, List.length_map, hl]; exact infoB64)
  go_enter Try.func20, Try.ntmps20
  go_wp2_with (first
    | (with_reducible refine wpList_box rfl 41 (.tmp 0) rfl (.agg (stC x 0)) rfl hb1 ?_)
    | (with_reducible refine wpList_box rfl 42 (.tmp 1) rfl (.agg (l.map byteV).toArray) rfl (hb2 _) ?_)
    | (with_reducible refine wpList_alloc rfl 41 rfl (alloc8 _) ?_)
    | (with_reducible refine wpList_alloc rfl 72 rfl (alloc64 _) ?_))
  obtain ⟨g, hg⟩ : ∃ y, y = w.heap.size := ⟨_, rfl⟩
  rw [← hg]
  have hr2 : Row ((((w.alloc (.cells (stC x 0) 41)).alloc (.cells (l.map byteV).toArray 42)).alloc (.cells z8 41)).alloc (.cells z64 72)) g 41 (stC x 0) := (((Row.newAt hg.symm).alloc _).alloc _).alloc _
  have hr3 : Row ((((w.alloc (.cells (stC x 0) 41)).alloc (.cells (l.map byteV).toArray 42)).alloc (.cells z8 41)).alloc (.cells z64 72)) (g + 1) 42 (l.map byteV).toArray := ((Row.newAt (by simp only [World.size_alloc]; omega)).alloc _).alloc _
  have hr4 : Row ((((w.alloc (.cells (stC x 0) 41)).alloc (.cells (l.map byteV).toArray 42)).alloc (.cells z8 41)).alloc (.cells z64 72)) (g + 1 + 1) 41 z8 := (Row.newAt (by simp only [World.size_alloc]; omega)).alloc _
  have hr5 : Row ((((w.alloc (.cells (stC x 0) 41)).alloc (.cells (l.map byteV).toArray 42)).alloc (.cells z8 41)).alloc (.cells z64 72)) (g + 1 + 1 + 1) 72 (wordsC l 0) := by
    unfold wordsC
    rw [fillTo_zero]
    exact Row.newAt (by simp only [World.size_alloc]; omega)
  have hbl : Below w.heap.size w ((((w.alloc (.cells (stC x 0) 41)).alloc (.cells (l.map byteV).toArray 42)).alloc (.cells z8 41)).alloc (.cells z64 72)) := (((Later.refl w).alloc _).alloc _).alloc _ |>.alloc _
  have HG := Lib.hid hg
  have HL := Lib.hid hl
  clear hg hl hb1 hb2
  generalize (((w.alloc (.cells (stC x 0) 41)).alloc (.cells (l.map byteV).toArray 42)).alloc (.cells z8 41)).alloc (.cells z64 72) = w1 at *
  go_loopw [6] (fun t wr => ∃ k : Nat, k ≤ 64 ∧ t = .int .i64 k ∧ Row wr g 41 (stC x 0) ∧ Row wr (g + 1) 42 (l.map byteV).toArray ∧ Row wr (g + 1 + 1) 41 z8 ∧ Row wr (g + 1 + 1 + 1) 72 (wordsC l k) ∧ Below w.heap.size w wr) (fun t _ => 64 - (intOf t).toNat)
  case atStart => exact ⟨0, by omega, rfl, hr2, hr3, hr4, hr5, hbl⟩
  case round =>
    obtain ⟨k, hk, rfl, h2, h3, h4, h5, hb⟩ := hrel
    clear hr2 hr3 hr4 hr5 hbl
    by_cases hlt : k < 64
    · have hst : (wordsC l k).setIfInBounds k (wordV (Sha.M (Sha.wd l) k)) = wordsC l (k + 1) := fillTo_set _ _ _ _ hlt
      have hkc : wr.cell? ⟨g + 1 + 1 + 1, k, none⟩ = some (.int .u32 0) := (h5.cell k).trans ((fillTo_get _ _ _ _ _ hlt).trans (by rw [if_neg (by omega)]))
      have hkf := h5.frozen k
      have HST := Lib.hid hst
      clear hst
      by_cases h16 : k < 16
      · have hL4 : 4 * k + 4 ≤ l.length := by rw [HL.out]; omega
        have c0 : wr.cell? ⟨g + 1, 4 * k, none⟩ = some (byteV (l[4 * k]'(by omega))) := (h3.cell _).trans (bytes_get l _ (by omega))
        have c1 : wr.cell? ⟨g + 1, 4 * k + 1, none⟩ = some (byteV (l[4 * k + 1]'(by omega))) := (h3.cell _).trans (bytes_get l _ (by omega))
        have c2 : wr.cell? ⟨g + 1, 4 * k + 2, none⟩ = some (byteV (l[4 * k + 2]'(by omega))) := (h3.cell _).trans (bytes_get l _ (by omega))
        have c3 : wr.cell? ⟨g + 1, 4 * k + 3, none⟩ = some (byteV (l[4 * k + 3]'(by omega))) := (h3.cell _).trans (bytes_get l _ (by omega))
        have hM := Sha.M_lt (Sha.wd l) h16
        have hw4 := wd_four l k hL4
        have HM := Lib.hid hM
        have HW4 := Lib.hid hw4
        clear hM hw4
        generalize l[4 * k]'(by omega) = q0 at *
        generalize l[4 * k + 1]'(by omega) = q1 at *
        generalize l[4 * k + 2]'(by omega) = q2 at *
        generalize l[4 * k + 3]'(by omega) = q3 at *
        have b0 := q0.toNat_lt
        have b1 := q1.toNat_lt
        have b2 := q2.toNat_lt
        have b3 := q3.toNat_lt
        clear hL4
        have m0 : IntKind.i64.wrap (4 * (k : Int)) = 4 * (k : Int) := IntWalk.i64_in _ (by omega)
        have m1 : IntKind.i64.wrap (4 * (k : Int) + 1) = 4 * (k : Int) + 1 := IntWalk.i64_in _ (by omega)
        have m2 : IntKind.i64.wrap (4 * (k : Int) + 2) = 4 * (k : Int) + 2 := IntWalk.i64_in _ (by omega)
        have m3 : IntKind.i64.wrap (4 * (k : Int) + 3) = 4 * (k : Int) + 3 := IntWalk.i64_in _ (by omega)
        have n0 : (4 * (k : Int)).toNat = 4 * k := by omega
        have n1 : (4 * (k : Int) + 1).toNat = 4 * k + 1 := by omega
        have n2 : (4 * (k : Int) + 2).toNat = 4 * k + 2 := by omega
        have n3 : (4 * (k : Int) + 3).toNat = 4 * k + 3 := by omega
        have u0 : 4 * (k : Int) < 64 := by omega
        have u1 : 4 * (k : Int) + 1 < 64 := by omega
        have u2 : 4 * (k : Int) + 2 < 64 := by omega
        have u3 : 4 * (k : Int) + 3 < 64 := by omega
        have v0 : 0 ≤ 4 * (k : Int) := by omega
        have v1 : 0 ≤ 4 * (k : Int) + 1 := by omega
        have v2 : 0 ≤ 4 * (k : Int) + 2 := by omega
        have v3 : 0 ≤ 4 * (k : Int) + 3 := by omega
        go_wp2
        refine wp_region_still_tail 31 (by kernel_rfl) (by kernel_rfl) ?_
        simp only [List.take_succ_cons, List.take_zero, List.drop_succ_cons, List.drop_zero]
        repeat still_step
        refine wpStill_nil ?_
        have EV := word_sum q0 q1 q2 q3 (Sha.wd l k) HW4.out
        rw [← HM.out] at EV
        rw [EV]
        change wpList _ _ _ _ _ wr.drew
        clear EV m0 m1 m2 m3 n0 n1 n2 n3 u0 u1 u2 u3 v0 v1 v2 v3 c0 c1 c2 c3 b0 b1 b2 b3
        generalize Sha.M (Sha.wd l) k = mk at *
        go_wp2
        go_roundw
        case rel => exact ⟨k + 1, by omega, by go_num, h2.drew.far (by simp; omega) _, h3.drew.far (by simp) _, h4.drew.far (by simp) _, by rw [← HST.out]; exact h5.drew.set _ _, hb.drew.setCell (by have := HG.out; simp; omega) _⟩
        case measure => simp [intOf]; omega
      · have d2 : wr.cell? ⟨g + 1 + 1 + 1, k - 2, none⟩ = some (.int .u32 ((Sha.M (Sha.wd l) (k - 2)).toNat : Int)) := (h5.cell _).trans (fillTo_get_lt (by omega) (by omega))
        have d7 : wr.cell? ⟨g + 1 + 1 + 1, k - 7, none⟩ = some (.int .u32 ((Sha.M (Sha.wd l) (k - 7)).toNat : Int)) := (h5.cell _).trans (fillTo_get_lt (by omega) (by omega))
        have d15 : wr.cell? ⟨g + 1 + 1 + 1, k - 15, none⟩ = some (.int .u32 ((Sha.M (Sha.wd l) (k - 15)).toNat : Int)) := (h5.cell _).trans (fillTo_get_lt (by omega) (by omega))
        have d16 : wr.cell? ⟨g + 1 + 1 + 1, k - 16, none⟩ = some (.int .u32 ((Sha.M (Sha.wd l) (k - 16)).toNat : Int)) := (h5.cell _).trans (fillTo_get_lt (by omega) (by omega))
        have hM := Sha.M_ge (Sha.wd l) (t := k) (by omega)
        generalize Sha.M (Sha.wd l) (k - 2) = y2 at *
        generalize Sha.M (Sha.wd l) (k - 7) = y7 at *
        generalize Sha.M (Sha.wd l) (k - 15) = y15 at *
        generalize Sha.M (Sha.wd l) (k - 16) = y16 at *
        have HM := Lib.hid hM
        clear hM
        have m0 : IntKind.i64.wrap ((k : Int) - 2) = (k : Int) - 2 := IntWalk.i64_in _ (by omega)
        have m1 : IntKind.i64.wrap ((k : Int) - 7) = (k : Int) - 7 := IntWalk.i64_in _ (by omega)
        have m2 : IntKind.i64.wrap ((k : Int) - 15) = (k : Int) - 15 := IntWalk.i64_in _ (by omega)
        have m3 : IntKind.i64.wrap ((k : Int) - 16) = (k : Int) - 16 := IntWalk.i64_in _ (by omega)
        have n0 : ((k : Int) - 2).toNat = k - 2 := by omega
        have n1 : ((k : Int) - 7).toNat = k - 7 := by omega
        have n2 : ((k : Int) - 15).toNat = k - 15 := by omega
        have n3 : ((k : Int) - 16).toNat = k - 16 := by omega
        have u0 : (k : Int) - 2 < 64 := by omega
        have u1 : (k : Int) - 7 < 64 := by omega
        have u2 : (k : Int) - 15 < 64 := by omega
        have u3 : (k : Int) - 16 < 64 := by omega
        have v0 : 0 ≤ (k : Int) - 2 := by omega
        have v1 : 0 ≤ (k : Int) - 7 := by omega
        have v2 : 0 ≤ (k : Int) - 15 := by omega
        have v3 : 0 ≤ (k : Int) - 16 := by omega
        have x0 : 2 ≤ (k : Int) := by omega
        have x1 : 7 ≤ (k : Int) := by omega
        have x2 : 15 ≤ (k : Int) := by omega
        have x3 : 16 ≤ (k : Int) := by omega
        go_wp2
        refine wp_region_still_tail 23 (by kernel_rfl) (by kernel_rfl) ?_
        simp only [List.take_succ_cons, List.take_zero, List.drop_succ_cons, List.drop_zero]
        repeat still_step
        still_call (refR_s1 _ _)
        repeat still_step
        still_call (refR_s0 _ _)
        repeat still_step
        refine wpStill_nil ?_
        change wpList _ _ _ _ _ wr.drew
        have EV : IntKind.u32.wrap (IntKind.u32.wrap (IntKind.u32.wrap (((Sha.s1 y2).toNat : Int) + (y7.toNat : Int)) + ((Sha.s0 y15).toNat : Int)) + (y16.toNat : Int)) = ((Sha.M (Sha.wd l) k).toNat : Int) := by
          rw [HM.out]
          simp only [IntKind.wrap_u32', bv_add]
        rw [EV]
        clear EV m0 m1 m2 m3 n0 n1 n2 n3 u0 u1 u2 u3 v0 v1 v2 v3 x0 x1 x2 x3 d2 d7 d15 d16 HM
        generalize Sha.M (Sha.wd l) k = mk at *
        go_wp2
        go_roundw
        case rel => exact ⟨k + 1, by omega, by go_num, h2.drew.far (by simp; omega) _, h3.drew.far (by simp) _, h4.drew.far (by simp) _, by rw [← HST.out]; exact h5.drew.set _ _, hb.drew.setCell (by have := HG.out; simp; omega) _⟩
        case measure => simp [intOf]; omega
    · obtain rfl : k = 64 := by omega
      rw [show ((64 : Nat) : Int) = 64 from rfl]
      have hbs := hb.size
      go_upto_region 8 with fail
      go_cut [7] from 7 to 73 (fun v W => ∃ bk, v = .pointer (some ⟨bk, 0, none⟩) ∧ Row W bk 72 kCells ∧ wr.heap.size ≤ bk ∧ Later wr W)
      case first =>
        go_wp2_with fail
        refine (refK_any _).mono ?_
        rintro e w1 ⟨rfl, hb1⟩
        go_wp2_with (first
          | (with_reducible refine wpList_alloc rfl 72 rfl (alloc64 _) ?_)
          | (refine wpList_store rfl 72 (.tmp 7) (.tmp 73) rfl (.pointer (some ⟨w1.heap.size, 0, none⟩)) (.agg kCells) rfl rfl (storeK _) ?_))
        go_meet
        exact ⟨w1.heap.size, rfl, Row.new w1 _ _, hb1.size, ((Later.refl wr).call hb1).alloc _⟩
      case rest =>
        obtain ⟨bk, rfl, hbk, hbk0, hLk⟩ := hcut
        obtain ⟨wk, rfl⟩ : ∃ y, y = wc := ⟨_, rfl⟩
        have e2 := h2.later hLk
        have e4 := h4.later hLk
        have e5 := h5.later hLk
        have hld := run_load_row (P := Try.prog) (T := 41) e2 Try.underlying41 rfl (by rw [stC_size]; exact info8)
        have hbw : Below w.heap.size w wk := hb.trans (hLk.mono hbs)
        have hLs := hLk.size
        have hbkl := hbk.lt
        have gl4 := h4.lt
        have gl5 := h5.lt
        clear h2 h3 h4 h5 hb hLk
        go_upto_region 9 with fail
        go_cut [8] from 8 to 74 (fun v W => ∃ bx, v = .pointer (some ⟨bx, 0, none⟩) ∧ Row W bx 41 (stC x 0) ∧ wk.heap.size ≤ bx ∧ Later wk W)
        case first =>
          go_wp2_with (first
            | (refine wpList_load rfl 41 (.tmp 2) rfl (.pointer (some ⟨g, 0, none⟩)) rfl hld ?_)
            | (with_reducible refine wpList_alloc rfl 41 rfl (alloc8 _) ?_)
            | (refine wpList_store rfl 41 (.tmp 8) (.tmp 74) rfl (.pointer (some ⟨wk.heap.size, 0, none⟩)) (.agg (stC x 0)) rfl rfl (storeS x _) ?_))
          go_meet
          exact ⟨wk.heap.size, rfl, Row.new wk _ _, Nat.le_refl _, (Later.refl wk).alloc _⟩
        case rest =>
          obtain ⟨bx, rfl, ex, hbx, hLx⟩ := hcut
          obtain ⟨w2, rfl⟩ : ∃ y, y = wc := ⟨_, rfl⟩
          have f2 := e2.later hLx
          have f4 := e4.later hLx
          have f5 := e5.later hLx
          have fk := hbk.later hLx
          have fb := hbw.trans (hLx.mono hbw.size)
          have hbk1 : bk < bx := by omega
          have hb51 : g + 1 + 1 + 1 < bx := by omega
          have hbw : w.heap.size ≤ bx := by have := hbw.size; omega
          clear e2 e4 e5 hbk hld hbx hLx
          go_wp2_with fail
          go_loopw [9] (fun t wr => ∃ k : Nat, k ≤ 64 ∧ t = .int .i64 k ∧ Row wr g 41 (stC x 0) ∧ Row wr (g + 1 + 1) 41 z8 ∧ Row wr (g + 1 + 1 + 1) 72 (wordsC l 64) ∧ Row wr bk 72 kCells ∧ Row wr bx 41 (stC (Sha.rs x (Sha.wd l) k) 0) ∧ Below w.heap.size w wr) (fun t _ => 64 - (intOf t).toNat)
          case atStart => exact ⟨0, by omega, rfl, f2, f4, f5, fk, ex, fb⟩
          case round =>
            obtain ⟨k, hk, rfl, h2, h4, h5, h6, h7, hb⟩ := hrel
            clear f2 f4 f5 fk ex fb
            by_cases hlt : k < 64
            · have hnx : Sha.rs x (Sha.wd l) (k + 1) = Sha.rnd (Sha.kc k) (Sha.M (Sha.wd l) k) (Sha.rs x (Sha.wd l) k) := rfl
              have cm : wr.cell? ⟨g + 1 + 1 + 1, k, none⟩ = some (.int .u32 ((Sha.M (Sha.wd l) k).toNat : Int)) := (h5.cell _).trans (fillTo_get_lt (by omega) (by omega))
              have ck : wr.cell? ⟨bk, k, none⟩ = some (.int .u32 ((Sha.kc k).toNat : Int)) := (h6.cell _).trans (kCells_get k hlt)
              have HNX := Lib.hid hnx
              clear hnx
              generalize Sha.rs x (Sha.wd l) k = s at *
              generalize Sha.M (Sha.wd l) k = mk at *
              generalize Sha.kc k = kk at *
              have c0 : wr.cell? ⟨bx, 0, none⟩ = some (.int .u32 (s.a.toNat : Int)) := (h7.cell 0).trans (stC_get s 0 0 (by decide))
              have c1 : wr.cell? ⟨bx, 1, none⟩ = some (.int .u32 (s.b.toNat : Int)) := (h7.cell 1).trans (stC_get s 0 1 (by decide))
              have c2 : wr.cell? ⟨bx, 2, none⟩ = some (.int .u32 (s.c.toNat : Int)) := (h7.cell 2).trans (stC_get s 0 2 (by decide))
              have c3 : wr.cell? ⟨bx, 3, none⟩ = some (.int .u32 (s.d.toNat : Int)) := (h7.cell 3).trans (stC_get s 0 3 (by decide))
              have c4 : wr.cell? ⟨bx, 4, none⟩ = some (.int .u32 (s.e.toNat : Int)) := (h7.cell 4).trans (stC_get s 0 4 (by decide))
              have c5 : wr.cell? ⟨bx, 5, none⟩ = some (.int .u32 (s.f.toNat : Int)) := (h7.cell 5).trans (stC_get s 0 5 (by decide))
              have c6 : wr.cell? ⟨bx, 6, none⟩ = some (.int .u32 (s.g.toNat : Int)) := (h7.cell 6).trans (stC_get s 0 6 (by decide))
              have c7 : wr.cell? ⟨bx, 7, none⟩ = some (.int .u32 (s.h.toNat : Int)) := (h7.cell 7).trans (stC_get s 0 7 (by decide))
              obtain ⟨one, hone⟩ : ∃ o, s.h + Sha.S1 s.e + Sha.ch s.e s.f s.g + kk + mk = o := ⟨_, rfl⟩
              obtain ⟨two, htwo⟩ : ∃ o, Sha.S0 s.a + Sha.maj s.a s.b s.c = o := ⟨_, rfl⟩
              have E1 : (((s.h.toNat : Int) + ((Sha.S1 s.e).toNat : Int) + ((Sha.ch s.e s.f s.g).toNat : Int) + (kk.toNat : Int)) % 4294967296 + (mk.toNat : Int)) % 4294967296 = (one.toNat : Int) := by
                rw [← hone]
                simp only [BitVec.toNat_add]
                omega
              have E2 : (((Sha.S0 s.a).toNat : Int) + ((Sha.maj s.a s.b s.c).toNat : Int)) % 4294967296 = (two.toNat : Int) := by
                rw [← htwo, bv_add]
              have HE1 := Lib.hid E1
              have HE2 := Lib.hid E2
              have HO := Lib.hid hone
              have HT := Lib.hid htwo
              clear hone htwo E1 E2
              go_wp2_with fail
              go_quiet ((first | (go_at_call 41; exact Calls.quiet_of_same (refS_S1 _ _)) | (go_at_call 42; exact Calls.quiet_of_same (picked_q _ _ _ _))))
              obtain ⟨nA, hnA⟩ : ∃ y, y = nq := ⟨_, rfl⟩
              rw [← hnA]
              clear hnA
              rw [HE1.out]
              go_wp2_with fail
              go_quiet ((first | (go_at_call 41; exact still_q (refS_S0 _)) | (go_at_call 43; exact still_q (most_q _ _ _))))
              rw [HE2.out]
              have hag : Value.agg #[.int .u32 (((one.toNat : Int) + (two.toNat : Int)) % 4294967296), .int .u32 (s.a.toNat : Int), .int .u32 (s.b.toNat : Int), .int .u32 (s.c.toNat : Int), .int .u32 (((s.d.toNat : Int) + (one.toNat : Int)) % 4294967296), .int .u32 (s.e.toNat : Int), .int .u32 (s.f.toNat : Int), .int .u32 (s.g.toNat : Int)] = .agg (stC (Sha.rnd kk mk s) 0) := by
                rw [bv_add, bv_add, ← HO.out, ← HT.out]
                rfl
              obtain ⟨W', hst, hr', hg'⟩ := run_put_row (P := Try.prog) (T := 41) (w := wr.drewN (nA + nq)) h7 (vs := stC (Sha.rnd kk mk s) 0) (by rw [stC_size, stC_size]) (by rw [stC_size]; exact info8) (stC_one _ _)
              have HAG := Lib.hid hag
              clear hag HE1 HE2 HO HT
              go_wp2_with (first | (refine wpList_store rfl 41 (.tmp 8) (.tmp 131) rfl (.pointer (some ⟨bx, 0, none⟩)) (.agg (stC (Sha.rnd kk mk s) 0)) rfl HAG.out hst ?_))
              have hgb : ∀ j, j ≠ bx → some j ≠ some bx := fun j h e => h (by injection e)
              go_roundw
              case rel => exact ⟨k + 1, by omega, by go_num, (h2.drewN _).grown hg' (hgb _ (by omega)), (h4.drewN _).grown hg' (hgb _ (by omega)), (h5.drewN _).grown hg' (hgb _ (by omega)), (h6.drewN _).grown hg' (hgb _ (by omega)), by rw [HNX.out]; exact hr', (below_dN hb _).grown hg' hb.size (fun j e => by cases e; exact hbw)⟩
              case measure => simp [intOf]; omega
            · obtain rfl : k = 64 := by omega
              rw [show ((64 : Nat) : Int) = 64 from rfl]
              have hblk : Sha.blk x l = (Sha.rs x (Sha.wd l) 64).add x := rfl
              have HBK := Lib.hid hblk
              clear hblk h5 h6
              generalize Sha.rs x (Sha.wd l) 64 = y at *
              have hz0 : stTo (stC y 0) 0 (y.add x) 0 = stC y 0 := rfl
              have HZ0 := Lib.hid hz0
              clear hz0
              go_wp2_with fail
              go_loopw [12] (fun t wr => ∃ k : Nat, k ≤ 8 ∧ t = .int .i64 k ∧ Row wr g 41 (stC x 0) ∧ Row wr (g + 1 + 1) 41 z8 ∧ Row wr bx 41 (stTo (stC y 0) 0 (y.add x) k) ∧ Below w.heap.size w wr) (fun t _ => 8 - (intOf t).toNat)
              case atStart => exact ⟨0, by omega, rfl, h2, h4, by rw [HZ0.out]; exact h7, hb⟩
              case round =>
                obtain ⟨k, hk, rfl, k2, k4, k7, kb⟩ := hrel
                clear h2 h4 h7 hb
                by_cases hlt : k < 8
                · have hsu := stTo_succ (stC y 0) 0 (y.add x) k hlt
                  have cy : wr.cell? ⟨bx, k, none⟩ = some (.int .u32 ((y.get k).toNat : Int)) := (k7.cell _).trans (by
                    have h1 := stTo_get (stC y 0) 0 (y.add x) k k (Nat.le_refl _) hlt (by rw [stC_size]; omega)
                    rw [Nat.zero_add] at h1
                    rw [h1, stC_get y 0 k hlt, show (k + 0) % 8 = k from by omega])
                  have cx : wr.cell? ⟨g, k, none⟩ = some (.int .u32 ((x.get k).toNat : Int)) := (k2.cell _).trans (by rw [stC_get x 0 k hlt, show (k + 0) % 8 = k from by omega])
                  have hfx := k7.frozen k
                  rw [st_add_get, Nat.zero_add] at hsu
                  have HSU := Lib.hid hsu
                  clear hsu
                  generalize y.get k = yk at *
                  generalize x.get k = xk at *
                  go_wp2_with fail
                  refine wp_region_still_tail 9 (by kernel_rfl) (by kernel_rfl) ?_
                  simp only [List.take_succ_cons, List.take_zero, List.drop_succ_cons, List.drop_zero]
                  repeat still_step
                  refine wpStill_nil ?_
                  change wpList _ _ _ _ _ wr.drew
                  clear cx
                  go_wp2_with fail
                  go_roundw
                  case rel => exact ⟨k + 1, by omega, by go_num, k2.drew.far (by simp; omega) _, k4.drew.far (by simp; omega) _, by rw [bv_add, HSU.out]; exact k7.drew.set _ _, kb.drew.setCell hbw _⟩
                  case measure => simp [intOf]; omega
                · obtain rfl : k = 8 := by omega
                  have hst8 : stTo (stC y 0) 0 (y.add x) 8 = stC (y.add x) 0 := by
                    unfold stTo
                    rw [List.take_of_length_le (by simp [Sha.St.list]), setFrom_whole _ _ (by rw [stC_size]; rfl), stC_zero]
                  rw [hst8, ← HBK.out] at k7
                  have hld := run_load_row (P := Try.prog) (T := 41) k7 Try.underlying41 rfl (by rw [stC_size]; exact info8)
                  obtain ⟨W', hst, hr', hg'⟩ := run_put_row (P := Try.prog) (T := 41) k4 (vs := stC (Sha.blk x l) 0) (by rw [stC_size]; rfl) (by rw [stC_size]; exact info8) (stC_one _ _)
                  clear hst8 HBK
                  go_wp2_with (first
                    | (refine wpList_load rfl 41 (.tmp 8) rfl (.pointer (some ⟨bx, 0, none⟩)) rfl hld ?_)
                    | (refine wpList_store rfl 41 (.tmp 4) (.tmp 145) rfl (.pointer (some ⟨g + 1 + 1, 0, none⟩)) (.agg (stC (Sha.blk x l) 0)) rfl rfl hst ?_))
                  refine bodyPost_ret (results_cell_row rfl _ _ (g + 1 + 1) 41 (stC (Sha.blk x l) 0) (0, 0) _ rfl hr' Try.underlying41 rfl (by rw [stC_size]; exact info8)) rfl ⟨rfl, kb.grown hg' kb.size (fun j e => by cases e; have := HG.out; omega)⟩
end Go.Proofs.Ytfconncnccgenaa
