/- Joined: Agg, ShaP1, ShaP2, AppZ2, ShaP3, ShaP4, Run, ShaP5, ShaE, OpenA, ShaCv, Rows2, ShaN1, ShaN2, Order4, Order5, ShaN3, ShaN4, ShaN5. -/
import Derived.Test.YthabgfghogdkcaaDoorSb3
import Derived.StillTailTactics
import Derived.Deep.QuietTactic
import Derived.Stop.BytesEq
import Derived.ShutString
import Derived.ChangeOld
import Derived.Lib.ConvBytes
set_option linter.unusedVariables false
set_option linter.unusedSimpArgs false
namespace Go.Proofs.YthabgfghogdkcaaDoor
open Go.RowKit
section
variable {P : Program}
theorem run_box_row (w : World) (T : TypeId) (cs : Array Value) (hi : (P.info? T).map (·.size) = some cs.size) : (Instr.box T (.agg cs)).run P w = .ok (.pointer (some ⟨w.heap.size, 0, none⟩)) (w.alloc (.cells cs T)) := by
  obtain ⟨i, hi0, hs⟩ := Option.map_eq_some_iff.1 hi
  simp [Instr.box, sizeOf, typeInfo, hi0, hs, go_sem]
theorem run_load_row {w : World} {g : Nat} {t T : TypeId} {cs : Array Value} {d : TypeDesc} (hr : Row w g t cs) (hu : P.underlying T = some d) (hd : d.isRow = true) (hi : (P.info? T).map (·.size) = some cs.size) : (Instr.loadAt T (.pointer (some ⟨g, 0, none⟩))).run P w = .ok (.agg cs) w := by
  have := run_loadAt_mid (P := P) w g 0 T cs.toList d (hr.range 0 _ fun j v hv => by rw [Nat.zero_add, ← Array.getElem?_toList]; exact hv) hu hd (by rw [Array.length_toList]; exact hi)
  rwa [Array.toArray_toList] at this
theorem run_load_part {w : World} {g o : Nat} {t T : TypeId} {cs vs : Array Value} {d : TypeDesc} (hr : Row w g t cs) (hv : ∀ j, j < vs.size → cs[o + j]? = vs[j]?) (hu : P.underlying T = some d) (hd : d.isRow = true) (hi : (P.info? T).map (·.size) = some vs.size) : (Instr.loadAt T (.pointer (some ⟨g, o, none⟩))).run P w = .ok (.agg vs) w := by
  have := run_loadAt_mid (P := P) w g o T vs.toList d (hr.range o _ fun j v hj => by
    have hlt : j < vs.size := by
      rcases Nat.lt_or_ge j vs.size with h | h
      · exact h
      · rw [Array.getElem?_toList, Array.getElem?_eq_none h] at hj; cases hj
    rw [hv j hlt, ← Array.getElem?_toList]; exact hj) hu hd (by rw [Array.length_toList]; exact hi)
  rwa [Array.toArray_toList] at this
theorem run_put_row {w : World} {g : Nat} {t T : TypeId} {cs vs : Array Value} (hr : Row w g t cs) (hs : vs.size = cs.size) (hi : (P.info? T).map (·.size) = some vs.size) (h1 : vs.all (·.oneCell') = true) :
    ∃ w', (Instr.storeAt T (.pointer (some ⟨g, 0, none⟩)) (.agg vs)).run P w = .ok () w' ∧ Row w' g t vs ∧ w.grownBy w' (some g) := by
  refine ⟨_, run_store_row hr vs hi (by omega) h1, ?_, grown_setCells _ _ _⟩
  have := row_setCells vs.toList 0 w cs hr
  rwa [setFrom_whole _ _ (by simp [hs])] at this
end
theorem Row.has {w : World} {g : Nat} {t : TypeId} {cs : Array Value} (h : Row w g t cs) (i : Nat) (hi : i < cs.size) : ∃ v, w.cell? ⟨g, i, none⟩ = some v := ⟨_, (h.cell i).trans (Array.getElem?_eq_getElem hi)⟩
theorem below_dN {B : Nat} {w W : World} (h : Below B w W) (n : Nat) : Below B w (W.drewN n) := h.trans ((Drawn.refl W).drewN n |>.below _)
/-- An array of which the first places have been filled. -/
def fillTo (n : Nat) (z : Value) (f : Nat → Value) (k : Nat) : Array Value := ((List.range n).map fun j => if j < k then f j else z).toArray
theorem fillTo_size (n : Nat) (z : Value) (f : Nat → Value) (k : Nat) : (fillTo n z f k).size = n := by simp [fillTo]
theorem fillTo_get (n : Nat) (z : Value) (f : Nat → Value) (k j : Nat) (h : j < n) : (fillTo n z f k)[j]? = some (if j < k then f j else z) := by simp [fillTo, h]
theorem fillTo_get_lt {n : Nat} {z : Value} {f : Nat → Value} {k j : Nat} (hk : k ≤ n) (h : j < k) : (fillTo n z f k)[j]? = some (f j) := by rw [fillTo_get _ _ _ _ _ (by omega), if_pos h]
theorem fillTo_zero (n : Nat) (z : Value) (f : Nat → Value) : fillTo n z f 0 = Array.replicate n z := by
  apply Array.ext_getElem?
  intro i
  by_cases h : i < n
  · rw [fillTo_get n z f 0 i h, if_neg (by omega)]; simp [h]
  · rw [Array.getElem?_eq_none (by rw [fillTo_size]; omega), Array.getElem?_eq_none (by simp; omega)]
theorem fillTo_set (n : Nat) (z : Value) (f : Nat → Value) (k : Nat) (h : k < n) : (fillTo n z f k).setIfInBounds k (f k) = fillTo n z f (k + 1) := by
  apply Array.ext_getElem?
  intro i
  rw [Array.getElem?_setIfInBounds]
  by_cases hi : i < n
  · by_cases e : k = i
    · subst e; rw [if_pos rfl, if_pos (by rw [fillTo_size]; exact h), fillTo_get n z f (k + 1) k hi, if_pos (by omega)]
    · rw [if_neg e, fillTo_get n z f k i hi, fillTo_get n z f (k + 1) i hi]
      by_cases h3 : i < k
      · rw [if_pos h3, if_pos (by omega)]
      · rw [if_neg h3, if_neg (by omega)]
  · rw [if_neg (by omega), Array.getElem?_eq_none (by rw [fillTo_size]; omega), Array.getElem?_eq_none (by rw [fillTo_size]; omega)]
theorem fillTo_all (n : Nat) (z : Value) (f : Nat → Value) : fillTo n z f n = ((List.range n).map f).toArray := by
  unfold fillTo
  apply congrArg List.toArray
  apply List.map_congr_left
  intro j hj
  rw [if_pos (List.mem_range.1 hj)]
theorem fillTo_one {n : Nat} {z : Value} {f : Nat → Value} {k : Nat} (hz : z.oneCell' = true) (hf : ∀ j, (f j).oneCell' = true) : (fillTo n z f k).all (·.oneCell') = true := by
  rw [Array.all_eq_true_iff_forall_mem]
  intro v hv
  unfold fillTo at hv
  rw [List.mem_toArray] at hv
  obtain ⟨i, hi, rfl⟩ := List.mem_map.1 hv
  split
  · exact hf i
  · exact hz
end Go.Proofs.YthabgfghogdkcaaDoor
namespace Go.Proofs.YthabgfghogdkcaaDoor
open Go.RowKit
theorem xor3_ret (x y z : BitVec 32) : bits .xor .u32 (bits .xor .u32 (x.toNat : Int) (y.toNat : Int)) (z.toNat : Int) = ((x ^^^ y ^^^ z).toNat : Int) := by rw [bv_xor, bv_xor]
theorem refR_any (x : BitVec 32) (p q n : Nat) (hp1 : 1 ≤ p) (hp2 : p ≤ 31) (hq1 : 1 ≤ q) (hq2 : q ≤ 31) (hn : n ≤ 31) (w : World) :
    Calls Tryd.prog 74 #[.int .u32 (x.toNat : Int), .int .i64 (p : Int), .int .i64 (q : Int), .int .i64 (n : Int)] w fun e w' => e = .returned (.int .u32 ((Sha.ror x p ^^^ Sha.ror x q ^^^ (x >>> n)).toNat : Int)) ∧ w = w' := by
  have hx := x.isLt
  go_enter Tryd.func74, Tryd.ntmps74
  go_wp2_with fail
  refine (rotl_down x p hp1 hp2 _).mono ?_
  rintro e w1 ⟨rfl, rfl⟩
  go_wp2_with fail
  refine (rotl_down x q hq1 hq2 _).mono ?_
  rintro e w1 ⟨rfl, rfl⟩
  go_wp2_with fail
  go_ret
  exact ⟨ret_u32 (by rw [bv_shr]; exact xor3_ret _ _ _), rfl⟩
theorem refS_any (x : BitVec 32) (p q n : Nat) (hp1 : 1 ≤ p) (hp2 : p ≤ 31) (hq1 : 1 ≤ q) (hq2 : q ≤ 31) (hn1 : 1 ≤ n) (hn : n ≤ 31) (w : World) :
    Calls Tryd.prog 76 #[.int .u32 (x.toNat : Int), .int .i64 (p : Int), .int .i64 (q : Int), .int .i64 (n : Int)] w fun e w' => e = .returned (.int .u32 ((Sha.ror x p ^^^ Sha.ror x q ^^^ Sha.ror x n).toNat : Int)) ∧ w = w' := by
  have hx := x.isLt
  go_enter Tryd.func76, Tryd.ntmps76
  go_wp2_with fail
  refine (rotl_down x p hp1 hp2 _).mono ?_
  rintro e w1 ⟨rfl, rfl⟩
  go_wp2_with fail
  refine (rotl_down x q hq1 hq2 _).mono ?_
  rintro e w1 ⟨rfl, rfl⟩
  go_wp2_with fail
  refine (rotl_down x n hn1 hn _).mono ?_
  rintro e w1 ⟨rfl, rfl⟩
  go_wp2_with fail
  go_ret
  exact ⟨ret_u32 (xor3_ret _ _ _), rfl⟩
theorem bitI (x : BitVec 32) (k : Nat) : ((x.toNat : Int) / 2 ^ k).tmod 2 = ((x.getLsbD k).toNat : Int) := by
  have h2 : (x.getLsbD k).toNat = x.toNat / 2 ^ k % 2 := by
    show (x.toNat.testBit k).toNat = _
    rw [Nat.testBit_eq_decide_div_mod_eq]
    by_cases h : x.toNat / 2 ^ k % 2 = 1
    · rw [decide_eq_true h, h]; rfl
    · rw [decide_eq_false h]; simp; omega
  have e : (x.toNat : Int) / 2 ^ k = ((x.toNat / 2 ^ k : Nat) : Int) := by rw [Int.natCast_ediv, Int.natCast_pow]; rfl
  rw [h2, e]
  generalize x.toNat / 2 ^ k = q
  rw [Int.tmod_eq_emod_of_nonneg (by omega)]
  omega
theorem up_bit (x : BitVec 32) (k : Nat) (h : k < 32) (b : Int) (hb : ((x.getLsbD k).toNat : Int) = b) : (((x.toNat % 2 ^ k : Nat) : Int) + b * 2 ^ k % 4294967296) % 4294967296 = ((x.toNat % 2 ^ (k + 1) : Nat) : Int) := by
  subst hb
  have hl := Sha.low_succ x k
  have hx := x.isLt
  have h3 : x.toNat % 2 ^ (k + 1) ≤ x.toNat := Nat.mod_le _ _
  have e : ((x.getLsbD k).toNat : Int) * 2 ^ k = (((x.getLsbD k).toNat * 2 ^ k : Nat) : Int) := by rw [Int.natCast_mul, Int.natCast_pow]; rfl
  rw [e]
  generalize (x.getLsbD k).toNat * 2 ^ k = B at *
  generalize x.toNat % 2 ^ k = M at *
  generalize x.toNat % 2 ^ (k + 1) = N at *
  omega
theorem up_yes (x : BitVec 32) (k : Nat) (h : k < 32) (hb : x.getLsbD k = true) : (((x.toNat : Int) % 2 ^ k) + 2 ^ k % 4294967296) % 4294967296 = ((x.toNat % 2 ^ (k + 1) : Nat) : Int) := by
  have := up_bit x k h 1 (by rw [hb]; rfl)
  rw [Int.one_mul] at this
  rw [← this, Int.natCast_emod, Int.natCast_pow]
  rfl
theorem up_no (x : BitVec 32) (k : Nat) (hb : x.getLsbD k = false) : x.toNat % 2 ^ k = x.toNat % 2 ^ (k + 1) := by
  rw [Sha.low_succ x k, hb]
  simp
theorem maj_yes (a b c : BitVec 32) (k : Nat) (h : 2 ≤ (((a.toNat : Int) / 2 ^ k).tmod 2 + ((b.toNat : Int) / 2 ^ k).tmod 2 + ((c.toNat : Int) / 2 ^ k).tmod 2) % 4294967296) : (Sha.maj a b c).getLsbD k = true := by
  rw [bitI, bitI, bitI] at h
  rw [Sha.maj_bit]
  simp
  omega
theorem maj_no (a b c : BitVec 32) (k : Nat) (h : (((a.toNat : Int) / 2 ^ k).tmod 2 + ((b.toNat : Int) / 2 ^ k).tmod 2 + ((c.toNat : Int) / 2 ^ k).tmod 2) % 4294967296 < 2) : (Sha.maj a b c).getLsbD k = false := by
  rw [bitI, bitI, bitI] at h
  rw [Sha.maj_bit]
  have := (a.getLsbD k).toNat_lt
  have := (b.getLsbD k).toNat_lt
  have := (c.getLsbD k).toNat_lt
  simp
  omega
set_option maxHeartbeats 400000 in
theorem most_any (a b c : BitVec 32) (w : World) :
    Calls Tryd.prog 78 #[.int .u32 (a.toNat : Int), .int .u32 (b.toNat : Int), .int .u32 (c.toNat : Int)] w fun e w' => e = .returned (.int .u32 ((Sha.maj a b c).toNat : Int)) ∧ w = w' := by
  have ha := a.isLt
  have hb := b.isLt
  have hc := c.isLt
  go_enter Tryd.func78, Tryd.ntmps78
  go_wp2
  go_loop [7, 8] (fun o t => ∃ k : Nat, k ≤ 32 ∧ t = .int .u64 k ∧ o = .int .u32 (((Sha.maj a b c).toNat % 2 ^ k : Nat) : Int)) (fun _ t => 32 - (intOf t).toNat)
  case atStart => exact ⟨0, by omega, rfl, by rw [Nat.pow_zero, Nat.mod_one]; rfl⟩
  case round =>
    obtain ⟨k, hk, rfl, rfl⟩ := hrel
    by_cases hlt : k < 32
    · go_wp2
      · have h : 2 ≤ (((a.toNat : Int) / 2 ^ k).tmod 2 + ((b.toNat : Int) / 2 ^ k).tmod 2 + ((c.toNat : Int) / 2 ^ k).tmod 2) % 4294967296 := by assumption
        go_round
        case rel => exact ⟨k + 1, by omega, by go_num, by rw [up_yes _ k hlt (maj_yes a b c k h)]⟩
        case measure => simp [intOf]; omega
      · have h : (((a.toNat : Int) / 2 ^ k).tmod 2 + ((b.toNat : Int) / 2 ^ k).tmod 2 + ((c.toNat : Int) / 2 ^ k).tmod 2) % 4294967296 < 2 := by assumption
        go_round
        case rel => exact ⟨k + 1, by omega, by go_num, by rw [up_no _ k (maj_no a b c k h)]⟩
        case measure => simp [intOf]; omega
    · obtain rfl : k = 32 := by omega
      rw [Sha.low_all]
      go_wp2
      go_ret
      exact ⟨rfl, rfl⟩
set_option maxHeartbeats 400000 in
theorem picked_any (a b c : BitVec 32) (w : World) :
    Calls Tryd.prog 77 #[.int .u32 (a.toNat : Int), .int .u32 (b.toNat : Int), .int .u32 (c.toNat : Int)] w fun e w' => e = .returned (.int .u32 ((Sha.ch a b c).toNat : Int)) ∧ w = w' := by
  have ha := a.isLt
  have hb := b.isLt
  have hc := c.isLt
  go_enter Tryd.func77, Tryd.ntmps77
  go_wp2
  go_loop [7, 8] (fun o t => ∃ k : Nat, k ≤ 32 ∧ t = .int .u64 k ∧ o = .int .u32 (((Sha.ch a b c).toNat % 2 ^ k : Nat) : Int)) (fun _ t => 32 - (intOf t).toNat)
  case atStart => exact ⟨0, by omega, rfl, by rw [Nat.pow_zero, Nat.mod_one]; rfl⟩
  case round =>
    obtain ⟨k, hk, rfl, rfl⟩ := hrel
    by_cases hlt : k < 32
    · go_wp2
      · have h : ((a.toNat : Int) / 2 ^ k).tmod 2 == 1 := by assumption
        rw [bitI] at h
        have hb : ((b.toNat : Int) / 2 ^ k).tmod 2 = (((Sha.ch a b c).getLsbD k).toNat : Int) := by
          rw [bitI, Sha.ch_bit, if_pos]
          cases he : a.getLsbD k
          · rw [he] at h; cases h
          · rfl
        go_round
        case rel => exact ⟨k + 1, by omega, by go_num, by rw [hb, ← up_bit _ k hlt _ rfl, Int.natCast_emod, Int.natCast_pow]; rfl⟩
        case measure => simp [intOf]; omega
      · have h : (((a.toNat : Int) / 2 ^ k).tmod 2 == 1) = false := by assumption
        rw [bitI] at h
        have hb : ((c.toNat : Int) / 2 ^ k).tmod 2 = (((Sha.ch a b c).getLsbD k).toNat : Int) := by
          rw [bitI, Sha.ch_bit, if_neg]
          cases he : a.getLsbD k
          · simp
          · rw [he] at h; cases h
        go_round
        case rel => exact ⟨k + 1, by omega, by go_num, by rw [hb, ← up_bit _ k hlt _ rfl, Int.natCast_emod, Int.natCast_pow]; rfl⟩
        case measure => simp [intOf]; omega
    · obtain rfl : k = 32 := by omega
      rw [Sha.low_all]
      go_wp2
      go_ret
      exact ⟨rfl, rfl⟩
end Go.Proofs.YthabgfghogdkcaaDoor
namespace Go.Proofs.YthabgfghogdkcaaDoor
open Go.RowKit
set_option maxRecDepth 100000 in
theorem refK_any (w : World) : Calls Tryd.prog 75 #[] w fun e w' => e = .returned (.agg kCells) ∧ Below w.heap.size w w' := by
  go_enter Tryd.func75, Tryd.ntmps75
  go_wp2_with (first
    | (with_reducible refine wpList_alloc rfl 120 rfl (alloc64 _) ?_)
    | (refine wpList_buildC rfl 120 _ rfl kParts (by kernel_rfl) (buildK _) ?_)
    | (refine wpList_store rfl 120 (.tmp 0) (.tmp 1) rfl (.pointer (some ⟨w.heap.size, 0, none⟩)) (.agg kCells) rfl rfl (storeK _) ?_))
  refine bodyPost_ret (results_cell_row rfl _ _ w.heap.size 120 kCells (0, 0) _ rfl (Row.new w 120 kCells) Tryd.underlying120 rfl (by rw [kCells_size]; exact info64)) rfl ⟨rfl, below_new w _⟩
theorem refFirst_any (w : World) : Calls Tryd.prog 52 #[] w fun e w' => e = .returned (.agg (stC Sha.first 0)) ∧ w.alloc (.cells (stC Sha.first 0) 90) = w' := by
  go_enter Tryd.func52, Tryd.ntmps52
  go_wp2_with (first
    | (with_reducible refine wpList_alloc rfl 90 rfl (alloc8 _) ?_)
    | (refine wpList_buildC rfl 90 _ rfl firstParts (by kernel_rfl) (buildFirst _) ?_)
    | (refine wpList_store rfl 90 (.tmp 0) (.tmp 1) rfl (.pointer (some ⟨w.heap.size, 0, none⟩)) (.agg (stC Sha.first 0)) rfl rfl (storeS Sha.first _) ?_))
  refine bodyPost_ret (results_cell_row rfl _ _ w.heap.size 90 (stC Sha.first 0) (0, 0) _ rfl (Row.new w 90 (stC Sha.first 0)) Tryd.underlying90 rfl (by rw [stC_size]; exact info8)) rfl ⟨rfl, rfl⟩
theorem be_step (x : BitVec 32) (c : UInt8) (h : x.toNat < 16777216) : ((x <<< 8) ||| Sha.zx c).toNat = x.toNat * 256 + c.toNat := by
  have hc := c.toNat_lt
  have hz : (Sha.zx c).toNat = c.toNat := by have := zxv c; omega
  have h2 : x.toNat <<< 8 < 2 ^ 32 := by rw [Nat.shiftLeft_eq]; omega
  rw [BitVec.toNat_or, BitVec.toNat_shiftLeft, hz, Nat.mod_eq_of_lt h2, ← Nat.shiftLeft_add_eq_or_of_lt (by omega), Nat.shiftLeft_eq]
theorem be_four (a b c d : UInt8) : (Sha.be [a, b, c, d]).toNat = a.toNat * 16777216 + b.toNat * 65536 + c.toNat * 256 + d.toNat := by
  have ha := a.toNat_lt
  have hb := b.toNat_lt
  have hc := c.toNat_lt
  have hd := d.toNat_lt
  have e1 := be_step 0#32 a (by decide)
  have e2 := be_step ((0#32 <<< 8) ||| Sha.zx a) b (by rw [e1]; simp; omega)
  have e3 := be_step ((((0#32 <<< 8) ||| Sha.zx a) <<< 8) ||| Sha.zx b) c (by rw [e2, e1]; simp; omega)
  have e4 := be_step ((((((0#32 <<< 8) ||| Sha.zx a) <<< 8) ||| Sha.zx b) <<< 8) ||| Sha.zx c) d (by rw [e3, e2, e1]; simp; omega)
  have e : Sha.be [a, b, c, d] = ((((((((0#32 <<< 8) ||| Sha.zx a) <<< 8) ||| Sha.zx b) <<< 8) ||| Sha.zx c) <<< 8) ||| Sha.zx d) := rfl
  rw [e, e4, e3, e2, e1]
  simp
  omega
theorem wd_four (l : List UInt8) (t : Nat) (h : 4 * t + 4 ≤ l.length) : (Sha.wd l t).toNat = (l[4 * t]'(by omega)).toNat * 16777216 + (l[4 * t + 1]'(by omega)).toNat * 65536 + (l[4 * t + 2]'(by omega)).toNat * 256 + (l[4 * t + 3]'(by omega)).toNat := by
  have e : (l.drop (4 * t)).take 4 = [l[4 * t]'(by omega), l[4 * t + 1]'(by omega), l[4 * t + 2]'(by omega), l[4 * t + 3]'(by omega)] := by
    rw [List.drop_eq_getElem_cons (by omega), List.drop_eq_getElem_cons (by omega), List.drop_eq_getElem_cons (by omega), List.drop_eq_getElem_cons (by omega)]
    rfl
  unfold Sha.wd
  rw [e, be_four]
theorem bytes_get (l : List UInt8) (i : Nat) (h : i < l.length) : (l.map byteV).toArray[i]? = some (byteV l[i]) := by simp [h]
theorem word_sum (q0 q1 q2 q3 : UInt8) (x : BitVec 32) (h : x.toNat = q0.toNat * 16777216 + q1.toNat * 65536 + q2.toNat * 256 + q3.toNat) :
    IntKind.u32.wrap (IntKind.u32.wrap (IntKind.u32.wrap (IntKind.u32.wrap (IntKind.u32.wrap (q0.toNat : Int) * 16777216) + IntKind.u32.wrap (IntKind.u32.wrap (q1.toNat : Int) * 65536)) + IntKind.u32.wrap (IntKind.u32.wrap (q2.toNat : Int) * 256)) + IntKind.u32.wrap (q3.toNat : Int)) = (x.toNat : Int) := by
  have b0 := q0.toNat_lt
  have b1 := q1.toNat_lt
  have b2 := q2.toNat_lt
  have b3 := q3.toNat_lt
  simp only [IntKind.wrap_u32']
  omega
theorem refR_s1 (x : BitVec 32) (w : World) : Calls Tryd.prog 74 #[.int .u32 (x.toNat : Int), .int .i64 17, .int .i64 19, .int .i64 10] w fun e w' => e = .returned (.int .u32 ((Sha.s1 x).toNat : Int)) ∧ w' = w :=
  (refR_any x 17 19 10 (by decide) (by decide) (by decide) (by decide) (by decide) w).mono fun e w' ⟨h1, h2⟩ => ⟨h1, h2.symm⟩
theorem refR_s0 (x : BitVec 32) (w : World) : Calls Tryd.prog 74 #[.int .u32 (x.toNat : Int), .int .i64 7, .int .i64 18, .int .i64 3] w fun e w' => e = .returned (.int .u32 ((Sha.s0 x).toNat : Int)) ∧ w' = w :=
  (refR_any x 7 18 3 (by decide) (by decide) (by decide) (by decide) (by decide) w).mono fun e w' ⟨h1, h2⟩ => ⟨h1, h2.symm⟩
theorem refS_S1 (x : BitVec 32) (w : World) : Calls Tryd.prog 76 #[.int .u32 (x.toNat : Int), .int .i64 6, .int .i64 11, .int .i64 25] w fun e w' => e = .returned (.int .u32 ((Sha.S1 x).toNat : Int)) ∧ w' = w :=
  (refS_any x 6 11 25 (by decide) (by decide) (by decide) (by decide) (by decide) (by decide) w).mono fun e w' ⟨h1, h2⟩ => ⟨h1, h2.symm⟩
theorem refS_S0 (x : BitVec 32) (w : World) : Calls Tryd.prog 76 #[.int .u32 (x.toNat : Int), .int .i64 2, .int .i64 13, .int .i64 22] w fun e w' => e = .returned (.int .u32 ((Sha.S0 x).toNat : Int)) ∧ w' = w :=
  (refS_any x 2 13 22 (by decide) (by decide) (by decide) (by decide) (by decide) (by decide) w).mono fun e w' ⟨h1, h2⟩ => ⟨h1, h2.symm⟩
theorem most_q (a b c : BitVec 32) (w : World) : Calls Tryd.prog 78 #[.int .u32 (a.toNat : Int), .int .u32 (b.toNat : Int), .int .u32 (c.toNat : Int)] w fun e w' => e = .returned (.int .u32 ((Sha.maj a b c).toNat : Int)) ∧ w' = w :=
  (most_any a b c w).mono fun e w' ⟨h1, h2⟩ => ⟨h1, h2.symm⟩
theorem picked_q (a b c : BitVec 32) (w : World) : Calls Tryd.prog 77 #[.int .u32 (a.toNat : Int), .int .u32 (b.toNat : Int), .int .u32 (c.toNat : Int)] w fun e w' => e = .returned (.int .u32 ((Sha.ch a b c).toNat : Int)) ∧ w' = w :=
  (picked_any a b c w).mono fun e w' ⟨h1, h2⟩ => ⟨h1, h2.symm⟩
theorem still_q {P : Program} {f : FuncId} {args : Array Value} {v : Value} (c : ∀ W : World, Calls P f args W fun e w' => e = .returned v ∧ w' = W) {w : World} {a n : Nat} :
    Calls P f args (w.drewN (a + n)) fun e w'' => e = .returned v ∧ ∃ m, w'' = w.drewN (a + m) := (c _).mono fun _ _ h => ⟨h.1, n, h.2⟩
def wordsC (l : List UInt8) (k : Nat) : Array Value := fillTo 64 (.int .u32 0) (fun j => wordV (Sha.M (Sha.wd l) j)) k
theorem infoB64 : (Tryd.prog.info? 94).map (·.size) = some 64 := by kernel_rfl
set_option maxHeartbeats 4000000 in
set_option maxRecDepth 100000 in
theorem refPress_any (x : Sha.St) (l : List UInt8) (w : World) (hl : l.length = 64) :
    Calls Tryd.prog 54 #[.agg (stC x 0), .agg (l.map byteV).toArray] w fun e w' => e = .returned (.agg (stC (Sha.blk x l) 0)) ∧ Below w.heap.size w w' := by
  have hb1 := run_box_row (P := Tryd.prog) w 90 (stC x 0) (by rw [stC_size]; exact info8)
  have hb2 := fun w : World => run_box_row (P := Tryd.prog) w 94 (l.map byteV).toArray (by rw [List.size_toArray, List.length_map, hl]; exact infoB64)
  go_enter Tryd.func54, Tryd.ntmps54
  go_wp2_with (first
    | (with_reducible refine wpList_box rfl 90 (.tmp 0) rfl (.agg (stC x 0)) rfl hb1 ?_)
    | (with_reducible refine wpList_box rfl 94 (.tmp 1) rfl (.agg (l.map byteV).toArray) rfl (hb2 _) ?_)
    | (with_reducible refine wpList_alloc rfl 90 rfl (alloc8 _) ?_)
    | (with_reducible refine wpList_alloc rfl 120 rfl (alloc64 _) ?_))
  obtain ⟨g, hg⟩ : ∃ y, y = w.heap.size := ⟨_, rfl⟩
  rw [← hg]
  have hr2 : Row ((((w.alloc (.cells (stC x 0) 90)).alloc (.cells (l.map byteV).toArray 94)).alloc (.cells z8 90)).alloc (.cells z64 120)) g 90 (stC x 0) := (((Row.newAt hg.symm).alloc _).alloc _).alloc _
  have hr3 : Row ((((w.alloc (.cells (stC x 0) 90)).alloc (.cells (l.map byteV).toArray 94)).alloc (.cells z8 90)).alloc (.cells z64 120)) (g + 1) 94 (l.map byteV).toArray := ((Row.newAt (by simp only [World.size_alloc]; omega)).alloc _).alloc _
  have hr4 : Row ((((w.alloc (.cells (stC x 0) 90)).alloc (.cells (l.map byteV).toArray 94)).alloc (.cells z8 90)).alloc (.cells z64 120)) (g + 1 + 1) 90 z8 := (Row.newAt (by simp only [World.size_alloc]; omega)).alloc _
  have hr5 : Row ((((w.alloc (.cells (stC x 0) 90)).alloc (.cells (l.map byteV).toArray 94)).alloc (.cells z8 90)).alloc (.cells z64 120)) (g + 1 + 1 + 1) 120 (wordsC l 0) := by
    unfold wordsC
    rw [fillTo_zero]
    exact Row.newAt (by simp only [World.size_alloc]; omega)
  have hbl : Below w.heap.size w ((((w.alloc (.cells (stC x 0) 90)).alloc (.cells (l.map byteV).toArray 94)).alloc (.cells z8 90)).alloc (.cells z64 120)) := (((Later.refl w).alloc _).alloc _).alloc _ |>.alloc _
  have HG := Lib.hid hg
  have HL := Lib.hid hl
  clear hg hl hb1 hb2
  generalize (((w.alloc (.cells (stC x 0) 90)).alloc (.cells (l.map byteV).toArray 94)).alloc (.cells z8 90)).alloc (.cells z64 120) = w1 at *
  go_loopw [6] (fun t wr => ∃ k : Nat, k ≤ 64 ∧ t = .int .i64 k ∧ Row wr g 90 (stC x 0) ∧ Row wr (g + 1) 94 (l.map byteV).toArray ∧ Row wr (g + 1 + 1) 90 z8 ∧ Row wr (g + 1 + 1 + 1) 120 (wordsC l k) ∧ Below w.heap.size w wr) (fun t _ => 64 - (intOf t).toNat)
  case atStart => exact ⟨0, by omega, rfl, hr2, hr3, hr4, hr5, hbl⟩
  case round =>
    obtain ⟨k, hk, rfl, h2, h3, h4, h5, hb⟩ := hrel
    clear hr2 hr3 hr4 hr5 hbl
    by_cases hlt : k < 64
    · have hst : (wordsC l k).setIfInBounds k (wordV (Sha.M (Sha.wd l) k)) = wordsC l (k + 1) := fillTo_set _ _ _ _ hlt
      have hkc : wr.cell? ⟨g + 1 + 1 + 1, k, none⟩ = some (.int .u32 0) := (h5.cell k).trans ((fillTo_get _ _ _ _ _ hlt).trans (by rw [if_neg (by omega)]))
      have hkf := h5.frozen k
      have HST := Lib.hid hst
      clear hst
      by_cases h16 : k < 16
      · have hL4 : 4 * k + 4 ≤ l.length := by rw [HL.out]; omega
        have c0 : wr.cell? ⟨g + 1, 4 * k, none⟩ = some (byteV (l[4 * k]'(by omega))) := (h3.cell _).trans (bytes_get l _ (by omega))
        have c1 : wr.cell? ⟨g + 1, 4 * k + 1, none⟩ = some (byteV (l[4 * k + 1]'(by omega))) := (h3.cell _).trans (bytes_get l _ (by omega))
        have c2 : wr.cell? ⟨g + 1, 4 * k + 2, none⟩ = some (byteV (l[4 * k + 2]'(by omega))) := (h3.cell _).trans (bytes_get l _ (by omega))
        have c3 : wr.cell? ⟨g + 1, 4 * k + 3, none⟩ = some (byteV (l[4 * k + 3]'(by omega))) := (h3.cell _).trans (bytes_get l _ (by omega))
        have hM := Sha.M_lt (Sha.wd l) h16
        have hw4 := wd_four l k hL4
        have HM := Lib.hid hM
        have HW4 := Lib.hid hw4
        clear hM hw4
        generalize l[4 * k]'(by omega) = q0 at *
        generalize l[4 * k + 1]'(by omega) = q1 at *
        generalize l[4 * k + 2]'(by omega) = q2 at *
        generalize l[4 * k + 3]'(by omega) = q3 at *
        have b0 := q0.toNat_lt
        have b1 := q1.toNat_lt
        have b2 := q2.toNat_lt
        have b3 := q3.toNat_lt
        clear hL4
        have m0 : IntKind.i64.wrap (4 * (k : Int)) = 4 * (k : Int) := IntWalk.i64_in _ (by omega)
        have m1 : IntKind.i64.wrap (4 * (k : Int) + 1) = 4 * (k : Int) + 1 := IntWalk.i64_in _ (by omega)
        have m2 : IntKind.i64.wrap (4 * (k : Int) + 2) = 4 * (k : Int) + 2 := IntWalk.i64_in _ (by omega)
        have m3 : IntKind.i64.wrap (4 * (k : Int) + 3) = 4 * (k : Int) + 3 := IntWalk.i64_in _ (by omega)
        have n0 : (4 * (k : Int)).toNat = 4 * k := by omega
        have n1 : (4 * (k : Int) + 1).toNat = 4 * k + 1 := by omega
        have n2 : (4 * (k : Int) + 2).toNat = 4 * k + 2 := by omega
        have n3 : (4 * (k : Int) + 3).toNat = 4 * k + 3 := by omega
        have u0 : 4 * (k : Int) < 64 := by omega
        have u1 : 4 * (k : Int) + 1 < 64 := by omega
        have u2 : 4 * (k : Int) + 2 < 64 := by omega
        have u3 : 4 * (k : Int) + 3 < 64 := by omega
        have v0 : 0 ≤ 4 * (k : Int) := by omega
        have v1 : 0 ≤ 4 * (k : Int) + 1 := by omega
        have v2 : 0 ≤ 4 * (k : Int) + 2 := by omega
        have v3 : 0 ≤ 4 * (k : Int) + 3 := by omega
        go_wp2
        refine wp_region_still_tail 31 (by kernel_rfl) (by kernel_rfl) ?_
        simp only [List.take_succ_cons, List.take_zero, List.drop_succ_cons, List.drop_zero]
        repeat still_step
        refine wpStill_nil ?_
        have EV := word_sum q0 q1 q2 q3 (Sha.wd l k) HW4.out
        rw [← HM.out] at EV
        rw [EV]
        change wpList _ _ _ _ _ wr.drew
        clear EV m0 m1 m2 m3 n0 n1 n2 n3 u0 u1 u2 u3 v0 v1 v2 v3 c0 c1 c2 c3 b0 b1 b2 b3
        generalize Sha.M (Sha.wd l) k = mk at *
        go_wp2
        go_roundw
        case rel => exact ⟨k + 1, by omega, by go_num, h2.drew.far (by simp; omega) _, h3.drew.far (by simp) _, h4.drew.far (by simp) _, by rw [← HST.out]; exact h5.drew.set _ _, hb.drew.setCell (by have := HG.out; simp; omega) _⟩
        case measure => simp [intOf]; omega
      · have d2 : wr.cell? ⟨g + 1 + 1 + 1, k - 2, none⟩ = some (.int .u32 ((Sha.M (Sha.wd l) (k - 2)).toNat : Int)) := (h5.cell _).trans (fillTo_get_lt (by omega) (by omega))
        have d7 : wr.cell? ⟨g + 1 + 1 + 1, k - 7, none⟩ = some (.int .u32 ((Sha.M (Sha.wd l) (k - 7)).toNat : Int)) := (h5.cell _).trans (fillTo_get_lt (by omega) (by omega))
        have d15 : wr.cell? ⟨g + 1 + 1 + 1, k - 15, none⟩ = some (.int .u32 ((Sha.M (Sha.wd l) (k - 15)).toNat : Int)) := (h5.cell _).trans (fillTo_get_lt (by omega) (by omega))
        have d16 : wr.cell? ⟨g + 1 + 1 + 1, k - 16, none⟩ = some (.int .u32 ((Sha.M (Sha.wd l) (k - 16)).toNat : Int)) := (h5.cell _).trans (fillTo_get_lt (by omega) (by omega))
        have hM := Sha.M_ge (Sha.wd l) (t := k) (by omega)
        generalize Sha.M (Sha.wd l) (k - 2) = y2 at *
        generalize Sha.M (Sha.wd l) (k - 7) = y7 at *
        generalize Sha.M (Sha.wd l) (k - 15) = y15 at *
        generalize Sha.M (Sha.wd l) (k - 16) = y16 at *
        have HM := Lib.hid hM
        clear hM
        have m0 : IntKind.i64.wrap ((k : Int) - 2) = (k : Int) - 2 := IntWalk.i64_in _ (by omega)
        have m1 : IntKind.i64.wrap ((k : Int) - 7) = (k : Int) - 7 := IntWalk.i64_in _ (by omega)
        have m2 : IntKind.i64.wrap ((k : Int) - 15) = (k : Int) - 15 := IntWalk.i64_in _ (by omega)
        have m3 : IntKind.i64.wrap ((k : Int) - 16) = (k : Int) - 16 := IntWalk.i64_in _ (by omega)
        have n0 : ((k : Int) - 2).toNat = k - 2 := by omega
        have n1 : ((k : Int) - 7).toNat = k - 7 := by omega
        have n2 : ((k : Int) - 15).toNat = k - 15 := by omega
        have n3 : ((k : Int) - 16).toNat = k - 16 := by omega
        have u0 : (k : Int) - 2 < 64 := by omega
        have u1 : (k : Int) - 7 < 64 := by omega
        have u2 : (k : Int) - 15 < 64 := by omega
        have u3 : (k : Int) - 16 < 64 := by omega
        have v0 : 0 ≤ (k : Int) - 2 := by omega
        have v1 : 0 ≤ (k : Int) - 7 := by omega
        have v2 : 0 ≤ (k : Int) - 15 := by omega
        have v3 : 0 ≤ (k : Int) - 16 := by omega
        have x0 : 2 ≤ (k : Int) := by omega
        have x1 : 7 ≤ (k : Int) := by omega
        have x2 : 15 ≤ (k : Int) := by omega
        have x3 : 16 ≤ (k : Int) := by omega
        go_wp2
        refine wp_region_still_tail 23 (by kernel_rfl) (by kernel_rfl) ?_
        simp only [List.take_succ_cons, List.take_zero, List.drop_succ_cons, List.drop_zero]
        repeat still_step
        still_call (refR_s1 _ _)
        repeat still_step
        still_call (refR_s0 _ _)
        repeat still_step
        refine wpStill_nil ?_
        change wpList _ _ _ _ _ wr.drew
        have EV : IntKind.u32.wrap (IntKind.u32.wrap (IntKind.u32.wrap (((Sha.s1 y2).toNat : Int) + (y7.toNat : Int)) + ((Sha.s0 y15).toNat : Int)) + (y16.toNat : Int)) = ((Sha.M (Sha.wd l) k).toNat : Int) := by
          rw [HM.out]
          simp only [IntKind.wrap_u32', bv_add]
        rw [EV]
        clear EV m0 m1 m2 m3 n0 n1 n2 n3 u0 u1 u2 u3 v0 v1 v2 v3 x0 x1 x2 x3 d2 d7 d15 d16 HM
        generalize Sha.M (Sha.wd l) k = mk at *
        go_wp2
        go_roundw
        case rel => exact ⟨k + 1, by omega, by go_num, h2.drew.far (by simp; omega) _, h3.drew.far (by simp) _, h4.drew.far (by simp) _, by rw [← HST.out]; exact h5.drew.set _ _, hb.drew.setCell (by have := HG.out; simp; omega) _⟩
        case measure => simp [intOf]; omega
    · obtain rfl : k = 64 := by omega
      rw [show ((64 : Nat) : Int) = 64 from rfl]
      have hbs := hb.size
      go_upto_region 8 with fail
      go_cut [7] from 7 to 73 (fun v W => ∃ bk, v = .pointer (some ⟨bk, 0, none⟩) ∧ Row W bk 120 kCells ∧ wr.heap.size ≤ bk ∧ Later wr W)
      case first =>
        go_wp2_with fail
        refine (refK_any _).mono ?_
        rintro e w1 ⟨rfl, hb1⟩
        go_wp2_with (first
          | (with_reducible refine wpList_alloc rfl 120 rfl (alloc64 _) ?_)
          | (refine wpList_store rfl 120 (.tmp 7) (.tmp 73) rfl (.pointer (some ⟨w1.heap.size, 0, none⟩)) (.agg kCells) rfl rfl (storeK _) ?_))
        go_meet
        exact ⟨w1.heap.size, rfl, Row.new w1 _ _, hb1.size, ((Later.refl wr).call hb1).alloc _⟩
      case rest =>
        obtain ⟨bk, rfl, hbk, hbk0, hLk⟩ := hcut
        obtain ⟨wk, rfl⟩ : ∃ y, y = wc := ⟨_, rfl⟩
        have e2 := h2.later hLk
        have e4 := h4.later hLk
        have e5 := h5.later hLk
        have hld := run_load_row (P := Tryd.prog) (T := 90) e2 Tryd.underlying90 rfl (by rw [stC_size]; exact info8)
        have hbw : Below w.heap.size w wk := hb.trans (hLk.mono hbs)
        have hLs := hLk.size
        have hbkl := hbk.lt
        have gl4 := h4.lt
        have gl5 := h5.lt
        clear h2 h3 h4 h5 hb hLk
        go_upto_region 9 with fail
        go_cut [8] from 8 to 74 (fun v W => ∃ bx, v = .pointer (some ⟨bx, 0, none⟩) ∧ Row W bx 90 (stC x 0) ∧ wk.heap.size ≤ bx ∧ Later wk W)
        case first =>
          go_wp2_with (first
            | (refine wpList_load rfl 90 (.tmp 2) rfl (.pointer (some ⟨g, 0, none⟩)) rfl hld ?_)
            | (with_reducible refine wpList_alloc rfl 90 rfl (alloc8 _) ?_)
            | (refine wpList_store rfl 90 (.tmp 8) (.tmp 74) rfl (.pointer (some ⟨wk.heap.size, 0, none⟩)) (.agg (stC x 0)) rfl rfl (storeS x _) ?_))
          go_meet
          exact ⟨wk.heap.size, rfl, Row.new wk _ _, Nat.le_refl _, (Later.refl wk).alloc _⟩
        case rest =>
          obtain ⟨bx, rfl, ex, hbx, hLx⟩ := hcut
          obtain ⟨w2, rfl⟩ : ∃ y, y = wc := ⟨_, rfl⟩
          have f2 := e2.later hLx
          have f4 := e4.later hLx
          have f5 := e5.later hLx
          have fk := hbk.later hLx
          have fb := hbw.trans (hLx.mono hbw.size)
          have hbk1 : bk < bx := by omega
          have hb51 : g + 1 + 1 + 1 < bx := by omega
          have hbw : w.heap.size ≤ bx := by have := hbw.size; omega
          clear e2 e4 e5 hbk hld hbx hLx
          go_wp2_with fail
          go_loopw [9] (fun t wr => ∃ k : Nat, k ≤ 64 ∧ t = .int .i64 k ∧ Row wr g 90 (stC x 0) ∧ Row wr (g + 1 + 1) 90 z8 ∧ Row wr (g + 1 + 1 + 1) 120 (wordsC l 64) ∧ Row wr bk 120 kCells ∧ Row wr bx 90 (stC (Sha.rs x (Sha.wd l) k) 0) ∧ Below w.heap.size w wr) (fun t _ => 64 - (intOf t).toNat)
          case atStart => exact ⟨0, by omega, rfl, f2, f4, f5, fk, ex, fb⟩
          case round =>
            obtain ⟨k, hk, rfl, h2, h4, h5, h6, h7, hb⟩ := hrel
            clear f2 f4 f5 fk ex fb
            by_cases hlt : k < 64
            · have hnx : Sha.rs x (Sha.wd l) (k + 1) = Sha.rnd (Sha.kc k) (Sha.M (Sha.wd l) k) (Sha.rs x (Sha.wd l) k) := rfl
              have cm : wr.cell? ⟨g + 1 + 1 + 1, k, none⟩ = some (.int .u32 ((Sha.M (Sha.wd l) k).toNat : Int)) := (h5.cell _).trans (fillTo_get_lt (by omega) (by omega))
              have ck : wr.cell? ⟨bk, k, none⟩ = some (.int .u32 ((Sha.kc k).toNat : Int)) := (h6.cell _).trans (kCells_get k hlt)
              have HNX := Lib.hid hnx
              clear hnx
              generalize Sha.rs x (Sha.wd l) k = s at *
              generalize Sha.M (Sha.wd l) k = mk at *
              generalize Sha.kc k = kk at *
              have c0 : wr.cell? ⟨bx, 0, none⟩ = some (.int .u32 (s.a.toNat : Int)) := (h7.cell 0).trans (stC_get s 0 0 (by decide))
              have c1 : wr.cell? ⟨bx, 1, none⟩ = some (.int .u32 (s.b.toNat : Int)) := (h7.cell 1).trans (stC_get s 0 1 (by decide))
              have c2 : wr.cell? ⟨bx, 2, none⟩ = some (.int .u32 (s.c.toNat : Int)) := (h7.cell 2).trans (stC_get s 0 2 (by decide))
              have c3 : wr.cell? ⟨bx, 3, none⟩ = some (.int .u32 (s.d.toNat : Int)) := (h7.cell 3).trans (stC_get s 0 3 (by decide))
              have c4 : wr.cell? ⟨bx, 4, none⟩ = some (.int .u32 (s.e.toNat : Int)) := (h7.cell 4).trans (stC_get s 0 4 (by decide))
              have c5 : wr.cell? ⟨bx, 5, none⟩ = some (.int .u32 (s.f.toNat : Int)) := (h7.cell 5).trans (stC_get s 0 5 (by decide))
              have c6 : wr.cell? ⟨bx, 6, none⟩ = some (.int .u32 (s.g.toNat : Int)) := (h7.cell 6).trans (stC_get s 0 6 (by decide))
              have c7 : wr.cell? ⟨bx, 7, none⟩ = some (.int .u32 (s.h.toNat : Int)) := (h7.cell 7).trans (stC_get s 0 7 (by decide))
              obtain ⟨one, hone⟩ : ∃ o, s.h + Sha.S1 s.e + Sha.ch s.e s.f s.g + kk + mk = o := ⟨_, rfl⟩
              obtain ⟨two, htwo⟩ : ∃ o, Sha.S0 s.a + Sha.maj s.a s.b s.c = o := ⟨_, rfl⟩
              have E1 : (((s.h.toNat : Int) + ((Sha.S1 s.e).toNat : Int) + ((Sha.ch s.e s.f s.g).toNat : Int) + (kk.toNat : Int)) % 4294967296 + (mk.toNat : Int)) % 4294967296 = (one.toNat : Int) := by
                rw [← hone]
                simp only [BitVec.toNat_add]
                omega
              have E2 : (((Sha.S0 s.a).toNat : Int) + ((Sha.maj s.a s.b s.c).toNat : Int)) % 4294967296 = (two.toNat : Int) := by
                rw [← htwo, bv_add]
              have HE1 := Lib.hid E1
              have HE2 := Lib.hid E2
              have HO := Lib.hid hone
              have HT := Lib.hid htwo
              clear hone htwo E1 E2
              go_wp2_with fail
              go_quiet ((first | (go_at_call 76; exact Calls.quiet_of_same (refS_S1 _ _)) | (go_at_call 77; exact Calls.quiet_of_same (picked_q _ _ _ _))))
              obtain ⟨nA, hnA⟩ : ∃ y, y = nq := ⟨_, rfl⟩
              rw [← hnA]
              clear hnA
              rw [HE1.out]
              go_wp2_with fail
              go_quiet ((first | (go_at_call 76; exact still_q (refS_S0 _)) | (go_at_call 78; exact still_q (most_q _ _ _))))
              rw [HE2.out]
              have hag : Value.agg #[.int .u32 (((one.toNat : Int) + (two.toNat : Int)) % 4294967296), .int .u32 (s.a.toNat : Int), .int .u32 (s.b.toNat : Int), .int .u32 (s.c.toNat : Int), .int .u32 (((s.d.toNat : Int) + (one.toNat : Int)) % 4294967296), .int .u32 (s.e.toNat : Int), .int .u32 (s.f.toNat : Int), .int .u32 (s.g.toNat : Int)] = .agg (stC (Sha.rnd kk mk s) 0) := by
                rw [bv_add, bv_add, ← HO.out, ← HT.out]
                rfl
              obtain ⟨W', hst, hr', hg'⟩ := run_put_row (P := Tryd.prog) (T := 90) (w := wr.drewN (nA + nq)) h7 (vs := stC (Sha.rnd kk mk s) 0) (by rw [stC_size, stC_size]) (by rw [stC_size]; exact info8) (stC_one _ _)
              have HAG := Lib.hid hag
              clear hag HE1 HE2 HO HT
              go_wp2_with (first | (refine wpList_store rfl 90 (.tmp 8) (.tmp 131) rfl (.pointer (some ⟨bx, 0, none⟩)) (.agg (stC (Sha.rnd kk mk s) 0)) rfl HAG.out hst ?_))
              have hgb : ∀ j, j ≠ bx → some j ≠ some bx := fun j h e => h (by injection e)
              go_roundw
              case rel => exact ⟨k + 1, by omega, by go_num, (h2.drewN _).grown hg' (hgb _ (by omega)), (h4.drewN _).grown hg' (hgb _ (by omega)), (h5.drewN _).grown hg' (hgb _ (by omega)), (h6.drewN _).grown hg' (hgb _ (by omega)), by rw [HNX.out]; exact hr', (below_dN hb _).grown hg' hb.size (fun j e => by cases e; exact hbw)⟩
              case measure => simp [intOf]; omega
            · obtain rfl : k = 64 := by omega
              rw [show ((64 : Nat) : Int) = 64 from rfl]
              have hblk : Sha.blk x l = (Sha.rs x (Sha.wd l) 64).add x := rfl
              have HBK := Lib.hid hblk
              clear hblk h5 h6
              generalize Sha.rs x (Sha.wd l) 64 = y at *
              have hz0 : stTo (stC y 0) 0 (y.add x) 0 = stC y 0 := rfl
              have HZ0 := Lib.hid hz0
              clear hz0
              go_wp2_with fail
              go_loopw [12] (fun t wr => ∃ k : Nat, k ≤ 8 ∧ t = .int .i64 k ∧ Row wr g 90 (stC x 0) ∧ Row wr (g + 1 + 1) 90 z8 ∧ Row wr bx 90 (stTo (stC y 0) 0 (y.add x) k) ∧ Below w.heap.size w wr) (fun t _ => 8 - (intOf t).toNat)
              case atStart => exact ⟨0, by omega, rfl, h2, h4, by rw [HZ0.out]; exact h7, hb⟩
              case round =>
                obtain ⟨k, hk, rfl, k2, k4, k7, kb⟩ := hrel
                clear h2 h4 h7 hb
                by_cases hlt : k < 8
                · have hsu := stTo_succ (stC y 0) 0 (y.add x) k hlt
                  have cy : wr.cell? ⟨bx, k, none⟩ = some (.int .u32 ((y.get k).toNat : Int)) := (k7.cell _).trans (by
                    have h1 := stTo_get (stC y 0) 0 (y.add x) k k (Nat.le_refl _) hlt (by rw [stC_size]; omega)
                    rw [Nat.zero_add] at h1
                    rw [h1, stC_get y 0 k hlt, show (k + 0) % 8 = k from by omega])
                  have cx : wr.cell? ⟨g, k, none⟩ = some (.int .u32 ((x.get k).toNat : Int)) := (k2.cell _).trans (by rw [stC_get x 0 k hlt, show (k + 0) % 8 = k from by omega])
                  have hfx := k7.frozen k
                  rw [st_add_get, Nat.zero_add] at hsu
                  have HSU := Lib.hid hsu
                  clear hsu
                  generalize y.get k = yk at *
                  generalize x.get k = xk at *
                  go_wp2_with fail
                  refine wp_region_still_tail 9 (by kernel_rfl) (by kernel_rfl) ?_
                  simp only [List.take_succ_cons, List.take_zero, List.drop_succ_cons, List.drop_zero]
                  repeat still_step
                  refine wpStill_nil ?_
                  change wpList _ _ _ _ _ wr.drew
                  clear cx
                  go_wp2_with fail
                  go_roundw
                  case rel => exact ⟨k + 1, by omega, by go_num, k2.drew.far (by simp; omega) _, k4.drew.far (by simp; omega) _, by rw [bv_add, HSU.out]; exact k7.drew.set _ _, kb.drew.setCell hbw _⟩
                  case measure => simp [intOf]; omega
                · obtain rfl : k = 8 := by omega
                  have hst8 : stTo (stC y 0) 0 (y.add x) 8 = stC (y.add x) 0 := by
                    unfold stTo
                    rw [List.take_of_length_le (by simp [Sha.St.list]), setFrom_whole _ _ (by rw [stC_size]; rfl), stC_zero]
                  rw [hst8, ← HBK.out] at k7
                  have hld := run_load_row (P := Tryd.prog) (T := 90) k7 Tryd.underlying90 rfl (by rw [stC_size]; exact info8)
                  obtain ⟨W', hst, hr', hg'⟩ := run_put_row (P := Tryd.prog) (T := 90) k4 (vs := stC (Sha.blk x l) 0) (by rw [stC_size]; rfl) (by rw [stC_size]; exact info8) (stC_one _ _)
                  clear hst8 HBK
                  go_wp2_with (first
                    | (refine wpList_load rfl 90 (.tmp 8) rfl (.pointer (some ⟨bx, 0, none⟩)) rfl hld ?_)
                    | (refine wpList_store rfl 90 (.tmp 4) (.tmp 145) rfl (.pointer (some ⟨g + 1 + 1, 0, none⟩)) (.agg (stC (Sha.blk x l) 0)) rfl rfl hst ?_))
                  refine bodyPost_ret (results_cell_row rfl _ _ (g + 1 + 1) 90 (stC (Sha.blk x l) 0) (0, 0) _ rfl hr' Tryd.underlying90 rfl (by rw [stC_size]; exact info8)) rfl ⟨rfl, kb.grown hg' kb.size (fun j e => by cases e; have := HG.out; omega)⟩
end Go.Proofs.YthabgfghogdkcaaDoor
namespace Go.Proofs.YthabgfghogdkcaaDoor
open Go.RowKit Go.Builtin
theorem run_append_zeros_own {P : Program} (w : World) (base g cap : Nat) (t tn ty e : TypeId) (kn : IntKind) (ht : P.underlying t = some (.slice e)) (htn : P.underlying tn = some (.int kn)) (hi : ByteInfo P e) (l : List UInt8) (m : Nat) (hl : l.length = m)
    (hown : Own e w base (.slice (some ⟨g, 0, none⟩) m cap) l) (n : Nat) (hm : m + n ≤ 1000000000) (hbase : base ≤ w.heap.size) :
    ∃ v' w', (Builtin.append_ #[t, tn] ty #[.slice (some ⟨g, 0, none⟩) m cap, .int kn n]).run P w = .ok v' w' ∧ Own e w' base v' (l ++ List.replicate n 0) ∧ w.grownBy w' (some g) ∧ (v'.ownBlock = some g ∨ v'.ownBlock = some w.heap.size) := by
  obtain ⟨i, hi0, hz, hs, hb⟩ := info_parts hi
  subst hl
  have hw : IntKind.i64.wrap (n : Int) = n := by rw [IntKind.wrap_i64]; omega
  have h48i : ¬ (281474976710656 < (n : Int)) := by omega
  have hneg : ¬ ((n : Int) < 0) := by omega
  rcases hown.2 with ⟨hv, _⟩ | ⟨g', cap', cur, hv, hbg, hg, hnc, hcm, hcs, htake⟩
  · cases hv
  · injection hv with h1 h2 h3
    injection h1 with h1
    injection h1 with h1
    subst h1 h3
    have hcr : ((List.replicate n (0 : UInt8)).map byteV).length = n := by simp
    by_cases hroom : l.length + n ≤ cap
    · have hst := run_storeCells_at P g l.length e ((List.replicate n (0 : UInt8)).map byteV) 0 cur w hg (by rw [hcr]; omega) (by intro u hu; obtain ⟨x, _, rfl⟩ := List.mem_map.1 hu; rfl)
      simp only [Nat.add_zero] at hst
      have hrun : (Builtin.append_ #[t, tn] ty #[.slice (some ⟨g, 0, none⟩) l.length cap, .int kn n]).run P w = .ok (.slice (some ⟨g, 0, none⟩) (l.length + n) cap) (w.setRow g (cur.toList.take l.length ++ (List.replicate n (0 : UInt8)).map byteV ++ cur.toList.drop (l.length + ((List.replicate n (0 : UInt8)).map byteV).length)).toArray) := by
        rcases Nat.eq_zero_or_pos n with rfl | h0
        · have hself := setRow_self w g cur e (0, 0) hg
          have hw0 : IntKind.i64.wrap 0 = 0 := by decide
          simp [Builtin.append_, run_underlying ht, run_underlying htn, sizeOf, typeInfo, zeroValue, hi0, hz, hs, hb, asInt, asIntOf, hw0, hroom, Addr.add_lit, storeCells, hself, show l.length ≤ cap from by omega]
        · have hn : n ≠ 0 := by omega
          have hz2 : (zeroCells (Value.int IntKind.u8 0).cells n).toList = (List.replicate n (0 : UInt8)).map byteV := by
            rw [show (Value.int IntKind.u8 0).cells = #[.int .u8 0] from rfl, zeroCells_list]
          rw [List.map_replicate] at hst
          simp [Builtin.append_, run_underlying ht, run_underlying htn, sizeOf, typeInfo, zeroValue, hi0, hz, hs, hb, asInt, asIntOf, hw, hn, hneg, hroom, h48i, Addr.add_lit, hz2, hst]
      refine ⟨_, _, hrun, ⟨by simp, .inr ⟨g, cap, _, by simp, hbg, setRow_heap w g cur _ e _ hg, by simpa using hroom, hcm, ?_, ?_⟩⟩, ⟨rfl, rfl, rfl, by simp, fun k _ hk => setRow_other w g k _ (fun e => hk (by rw [e]))⟩, .inl rfl⟩
      · simp only [List.size_toArray, List.length_append, List.length_take, List.length_drop, Array.length_toList, hcr]
        omega
      · rw [Nat.mul_one] at htake ⊢
        rw [htake, List.map_append, List.length_append, List.length_replicate]
        simp only [List.append_assoc]
        rw [← List.append_assoc]
        exact List.take_left' (by simp)
    · have hn : n ≠ 0 := by omega
      have hnl : ¬ (l.length + n ≤ cap) := hroom
      have h63' : ¬ (9223372036854775807 < (l.length : Int) + (n : Int)) := by omega
      have hfc : (firstCells 1 l.length (.slice (some ⟨g, 0, none⟩) l.length cap)).run P w.drew = .ok (l.map byteV).toArray w.drew :=
        run_firstCells_some (P := P) w.drew 1 l.length ⟨g, 0, none⟩ l.length cap (l.map byteV) (by simp) (World.ownsRow.cells hown (g := g) rfl)
      have h48' : ¬ (281474976710656 < Builtin.nextslicecap (l.length + n) cap) := by
        have := nextslicecap_le (need := l.length + n) (old := cap) (by omega)
        have hc2 : cap < l.length + n := by omega
        omega
      have hge := grownCap_ge w (l.length + n) cap e
      have hle := grownCap_le_maxLen w (l.length + n) cap e (by unfold maxLen; omega)
      have hrun : (Builtin.append_ #[t, tn] ty #[.slice (some ⟨g, 0, none⟩) l.length cap, .int kn n]).run P w = .ok (.slice (some ⟨w.heap.size, 0, none⟩) (l.length + n) (grownCap w (l.length + n) cap e)) (w.drew.alloc (.cells ((l.map byteV).toArray ++ Builtin.zeroCells #[.int .u8 0] n ++ Builtin.zeroCells #[.int .u8 0] (grownCap w (l.length + n) cap e - (l.length + n))) e)) := by
        simp [Builtin.append_, run_underlying ht, run_underlying htn, sizeOf, typeInfo, zeroValue, hi0, hz, hs, hb, asInt, asIntOf, hw, hn, hneg, hnl, h63', h48', h48i, Question.forced, newRow, grownCap, hfc]
        rfl
      refine ⟨_, _, hrun, ⟨by simp, .inr ⟨w.heap.size, grownCap w (l.length + n) cap e, _, by simp, hbase, heap_alloc_new w.drew _, by simpa using hge, hle, ?_, ?_⟩⟩, ⟨rfl, rfl, rfl, by simp, fun k hk _ => Below.heap_alloc w.drew _ k hk⟩, .inr rfl⟩
      · simp [zeroCells_list]
        omega
      · rw [zeroCells_list, zeroCells_list, Nat.mul_one]
        simp only [List.append_toArray, List.map_append, List.length_append, List.length_replicate]
        exact List.take_left' (by simp)
theorem wpList_append_zeros {P : Program} {w : World} {ops : Array Oper} {rest : List Oper} {o : Oper} {a : Act} {Q : Exit → Act → World → Prop} (hgd : o.guard = none) (s x : Operand) (t tn : TypeId)
    (ho : o.op = .call { callee := .builtin .append, args := #[s, x], argTypes := #[t, tn] }) (base g cap : Nat) (e : TypeId) (kn : IntKind) (ht : P.underlying t = some (.slice e)) (htn : P.underlying tn = some (.int kn)) (hi : ByteInfo P e)
    (l : List UInt8) (m : Nat) (hl : l.length = m) (hs : a.eval s = .slice (some ⟨g, 0, none⟩) m cap) (hown : Own e w base (.slice (some ⟨g, 0, none⟩) m cap) l) (n : Nat) (hx : a.eval x = .int kn n) (hm : m + n ≤ 1000000000) (hbase : base ≤ w.heap.size)
    (h : ∀ v' w', Own e w' base v' (l ++ List.replicate n 0) → w.grownBy w' (some g) → (v'.ownBlock = some g ∨ v'.ownBlock = some w.heap.size) → wpList P ops Q rest (a.put o.dst v') w') : wpList P ops Q (o :: rest) a w := by
  obtain ⟨v', w', hr, h1, h2, h3⟩ := run_append_zeros_own (P := P) w base g cap t tn o.type e kn ht htn hi l m hl hown n hm hbase
  exact Lib.wpList_append_run w hgd s x t tn ho _ _ hs hx v' w' hr (h v' w' h1 h2 h3)
end Go.Proofs.YthabgfghogdkcaaDoor
namespace Go.Proofs.YthabgfghogdkcaaDoor
open Go.RowKit
theorem told4_list (n : Nat) : Sha.told n 4 = [UInt8.ofNat (n / 16777216), UInt8.ofNat (n / 65536), UInt8.ofNat (n / 256), UInt8.ofNat n] := by
  simp [Sha.told, List.range_succ]
set_option maxHeartbeats 1000000 in
set_option maxRecDepth 100000 in
theorem refTold_any (x : Sha.St) (w : World) :
    Calls Tryd.prog 55 #[.agg (stC x 0)] w fun e w' => e = .returned (.agg (hC (Sha.toldSt x))) ∧ Below w.heap.size w w' := by
  have hb1 := run_box_row (P := Tryd.prog) w 90 (stC x 0) (by rw [stC_size]; exact info8)
  go_enter Tryd.func55, Tryd.ntmps55
  go_wp2_with (first
    | (with_reducible refine wpList_box rfl 90 (.tmp 0) rfl (.agg (stC x 0)) rfl hb1 ?_)
    | (with_reducible refine wpList_alloc rfl 23 rfl (allocH _) ?_))
  obtain ⟨g, hg⟩ : ∃ y, y = w.heap.size := ⟨_, rfl⟩
  rw [← hg]
  have hr1 : Row (((w.alloc (.cells (stC x 0) 90)).alloc (.cells (hC []) 23)).alloc (.cells (hC []) 23)) g 90 (stC x 0) := ((Row.newAt hg.symm).alloc _).alloc _
  have hr2 : Row (((w.alloc (.cells (stC x 0) 90)).alloc (.cells (hC []) 23)).alloc (.cells (hC []) 23)) (g + 1) 23 (hC []) := (Row.newAt (by simp only [World.size_alloc]; omega)).alloc _
  have hr3 : Row (((w.alloc (.cells (stC x 0) 90)).alloc (.cells (hC []) 23)).alloc (.cells (hC []) 23)) (g + 1 + 1) 23 (hC (preC x 0)) := Row.newAt (by simp only [World.size_alloc]; omega)
  have hbl : Below w.heap.size w (((w.alloc (.cells (stC x 0) 90)).alloc (.cells (hC []) 23)).alloc (.cells (hC []) 23)) := (((Later.refl w).alloc _).alloc _).alloc _
  have HG := Lib.hid hg
  clear hg hb1
  generalize ((w.alloc (.cells (stC x 0) 90)).alloc (.cells (hC []) 23)).alloc (.cells (hC []) 23) = w1 at *
  go_loopw [4] (fun t wr => ∃ k : Nat, k ≤ 8 ∧ t = .int .i64 k ∧ Row wr g 90 (stC x 0) ∧ Row wr (g + 1) 23 (hC []) ∧ Row wr (g + 1 + 1) 23 (hC (preC x k)) ∧ Below w.heap.size w wr) (fun t _ => 8 - (intOf t).toNat)
  case atStart => exact ⟨0, by omega, rfl, hr1, hr2, hr3, hbl⟩
  case round =>
    obtain ⟨k, hk, rfl, h1, h2, h3, hb⟩ := hrel
    clear hr1 hr2 hr3 hbl
    by_cases hlt : k < 8
    · have hc := preC_succ x k hlt
      have hcx : wr.cell? ⟨g, k, none⟩ = some (.int .u32 ((x.get k).toNat : Int)) := (h1.cell _).trans (by rw [stC_get x 0 k hlt, show (k + 0) % 8 = k from by omega])
      have hpl := preC_len x k (by omega)
      have hsz := hC_size (preC x k) (by omega)
      have hset := hC_copy (preC x k) (Sha.told (x.get k).toNat 4) (by rw [Sha.told_len]; omega)
      rw [← hc, hpl, told4_list] at hset
      generalize x.get k = xk at *
      obtain ⟨v0, c0⟩ := h3.has (4 * k) (by omega)
      obtain ⟨v1, c1⟩ := h3.has (4 * k + 1) (by omega)
      obtain ⟨v2, c2⟩ := h3.has (4 * k + 2) (by omega)
      obtain ⟨v3, c3⟩ := h3.has (4 * k + 3) (by omega)
      have f0 := h3.frozen (4 * k)
      have f1 := h3.frozen (4 * k + 1)
      have f2 := h3.frozen (4 * k + 2)
      have f3 := h3.frozen (4 * k + 3)
      have HSET := Lib.hid hset
      clear hset hc hpl hsz
      have n0 : (4 * (k : Int)).toNat = 4 * k := by omega
      have n1 : (4 * (k : Int) + 1).toNat = 4 * k + 1 := by omega
      have n2 : (4 * (k : Int) + 2).toNat = 4 * k + 2 := by omega
      have n3 : (4 * (k : Int) + 3).toNat = 4 * k + 3 := by omega
      have u0 : 4 * (k : Int) < 32 := by omega
      have u1 : 4 * (k : Int) + 1 < 32 := by omega
      have u2 : 4 * (k : Int) + 2 < 32 := by omega
      have u3 : 4 * (k : Int) + 3 < 32 := by omega
      have hxl := xk.isLt
      go_wp2
      go_roundw
      case rel =>
        have y0 : (xk.toNat : Int) / 16777216 = ((UInt8.ofNat (xk.toNat / 16777216)).toNat : Int) := by rw [UInt8.toNat_ofNat']; omega
        have y1 : (xk.toNat : Int) / 65536 % 256 = ((UInt8.ofNat (xk.toNat / 65536)).toNat : Int) := by rw [UInt8.toNat_ofNat']; omega
        have y2 : (xk.toNat : Int) / 256 % 256 = ((UInt8.ofNat (xk.toNat / 256)).toNat : Int) := by rw [UInt8.toNat_ofNat']; omega
        have y3 : (xk.toNat : Int) % 256 = ((UInt8.ofNat xk.toNat).toNat : Int) := by rw [UInt8.toNat_ofNat']; omega
        rw [y0, y1, y2, y3]
        have hb0 : w.heap.size ≤ g + 1 + 1 := by have := HG.out; omega
        refine ⟨k + 1, by omega, by go_num, (((h1.far (by simp; omega) _).far (by simp; omega) _).far (by simp; omega) _).far (by simp; omega) _, (((h2.far (by simp) _).far (by simp) _).far (by simp) _).far (by simp) _, ?_, ((((hb.setCell hb0 _).setCell hb0 _).setCell hb0 _).setCell hb0 _)⟩
        rw [← HSET.out]
        exact (((h3.set _ _).set _ _).set _ _).set _ _
      case measure => simp [intOf]; omega
    · obtain rfl : k = 8 := by omega
      have hs32 := hC_size (Sha.toldSt x) (by rw [Sha.toldSt_len]; omega)
      rw [preC_all] at h3
      have hld := run_load_row (P := Tryd.prog) (T := 23) h3 Tryd.underlying23 rfl (by rw [hs32]; exact infoH)
      obtain ⟨W', hst, hr', hg'⟩ := run_put_row (P := Tryd.prog) (T := 23) h2 (vs := hC (Sha.toldSt x)) (by rw [hs32]; rfl) (by rw [hs32]; exact infoH) (hC_one _)
      have HS := Lib.hid hs32
      clear hs32
      go_wp2_with (first
        | (refine wpList_load rfl 23 (.tmp 3) rfl (.pointer (some ⟨g + 1 + 1, 0, none⟩)) rfl hld ?_)
        | (refine wpList_store rfl 23 (.tmp 2) (.tmp 46) rfl (.pointer (some ⟨g + 1, 0, none⟩)) (.agg (hC (Sha.toldSt x))) rfl rfl hst ?_))
      refine bodyPost_ret (results_cell_row rfl _ _ (g + 1) 23 (hC (Sha.toldSt x)) (0, 0) _ rfl hr' Tryd.underlying23 rfl (by rw [HS.out]; exact infoH)) rfl ⟨rfl, hb.grown hg' hb.size (fun j e => by cases e; have := HG.out; omega)⟩
end Go.Proofs.YthabgfghogdkcaaDoor
namespace Go.Proofs.YthabgfghogdkcaaDoor
open Go.RowKit
theorem own_void (w : World) (U : TypeId) (base : Nat) (hb : base ≤ w.heap.size) : Own U (w.alloc (.cells #[] U)) base (.slice (some ⟨w.heap.size, 0, none⟩) 0 0) [] :=
  ⟨rfl, .inr ⟨_, 0, #[], rfl, hb, heap_alloc_new w _, Nat.le_refl _, Nat.zero_le _, rfl, rfl⟩⟩
theorem told_upto (n many k : Nat) (h : k < many) : (Sha.told n many).take (k + 1) = (Sha.told n many).take k ++ [UInt8.ofNat (n / 256 ^ (many - 1 - k))] := by
  rw [List.take_succ_eq_append_getElem (by rw [Sha.told_len]; exact h)]
  congr 2
  simp only [Sha.told, List.getElem_map, List.getElem_range]
theorem shift_val (n k : Nat) (h : k < 8) : ((n : Int) * 8 / 2 ^ (56 - 8 * k)).tmod 256 % 256 = ((UInt8.ofNat (n * 8 / 256 ^ (8 - 1 - k))).toNat : Int) := by
  have e : (2 : Int) ^ (56 - 8 * k) = ((256 ^ (8 - 1 - k) : Nat) : Int) := by
    rw [show 56 - 8 * k = 8 * (8 - 1 - k) from by omega, Int.pow_mul, Int.natCast_pow]
    rfl
  rw [e, UInt8.toNat_ofNat']
  generalize 256 ^ (8 - 1 - k) = p
  have e2 : (n : Int) * 8 / (p : Int) = ((n * 8 / p : Nat) : Int) := by rw [Int.natCast_ediv, Int.natCast_mul]; rfl
  rw [e2]
  generalize n * 8 / p = q
  rw [Int.tmod_eq_emod_of_nonneg (by omega)]
  omega
set_option maxHeartbeats 1000000 in
set_option maxRecDepth 100000 in
theorem refPadded_any (A : Option Addr) (n ca : Nat) (l : List UInt8) (w : World) (hn : l.length = n) (hm : n ≤ 100000000) (hr : Rd w A l) :
    Calls Tryd.prog 53 #[.slice A n ca] w fun e w' => ∃ v, e = .returned v ∧ Own 5 w' w.heap.size v (Sha.padded l) ∧ Below w.heap.size w w' := by
  obtain ⟨z, hz⟩ : ∃ z, Sha.noughts n = z := ⟨_, rfl⟩
  have hzi : (128 - ((n : Int) + 9)) % 64 = (z : Int) := by rw [← hz]; unfold Sha.noughts; omega
  have hz63 : z ≤ 63 := by rw [← hz]; unfold Sha.noughts; omega
  have hpad : Sha.padded l = l ++ [128] ++ List.replicate z 0 ++ Sha.told (n * 8) 8 := by
    unfold Sha.padded
    rw [hn, hz]
    simp [Sha.zeros]
  have HN := Lib.hid hn
  have HP := Lib.hid hpad
  have HZI := Lib.hid hzi
  clear hz hpad hn hzi
  have hp1 : 0 ≤ 128 - ((n : Int) + 9) % 64 := by omega
  go_enter Tryd.func53, Tryd.ntmps53
  go_wp2_with (first
    | (at_builtin; refine wpList_append_bytes rfl (.tmp 12) (.tmp 13) 40 rfl w.heap.size 5 Tryd.underlying40 (info5 : ByteInfo Tryd.prog 5) _ [] rfl (own_void w _ _ (Nat.le_refl _)) A n ca l rfl HN.out (hr.alloc _) (by simp; omega) (by simp) ?_; intro v1 w1 hown1 hg1 hat1)
    | (at_builtin; refine wpList_append_bytes rfl (.tmp 14) (.tmp 15) 40 rfl w.heap.size 5 Tryd.underlying40 (info5 : ByteInfo Tryd.prog 5) _ l rfl (Own.alloc hown1 _) (some ⟨w1.heap.size, 0, none⟩) 1 1 [128] rfl rfl (Rd.byte1 rfl) (by have := HN.out; omega) (by have := hg1.size; simp at this ⊢; omega) ?_; intro v2 w2 hown2 hg2 hat2; have hb1 : Below w.heap.size w w1 := (below_new w _).grown hg1 (by simp) (fun k hk => Nat.le_of_eq (Option.some.inj hk)); have hb2 : Below w.heap.size w w2 := (hb1.alloc hb1.size _).grown hg2 (by have := hb1.size; simp; omega) (fun k hk => (hown1.at_ k hk).1); obtain ⟨g2, c2, rfl, hown2', hbg2, hgl2, hnc2, hcm2⟩ := Own.formN hown2 (n := n + 1) (by rw [List.length_append, HN.out]; rfl) (by omega))
    | (at_builtin; refine wpList_append_zeros rfl (.tmp 17) (.tmp 18) 40 3 rfl w.heap.size g2 c2 5 .i64 Tryd.underlying40 Tryd.underlying3 (info5 : ByteInfo Tryd.prog 5) (l ++ [128]) (n + 1) (by rw [List.length_append, HN.out]; rfl) rfl hown2' z (congrArg (Value.int .i64) HZI.out) (by omega) (by have := hb2.size; omega) ?_; intro v3 w3 hown3 hg3 hat3; have hb3 : Below w.heap.size w w3 := hb2.grown hg3 hb2.size (fun k hk => by cases hk; exact hbg2); clear hown2' hown2 hown1 hg1 hg2 hg3 hat1 hat2 hb1 hb2)
    | (fail))
  go_loopw [4, 5] (fun v t wr => ∃ k : Nat, k ≤ 8 ∧ t = .int .i64 k ∧ Own 5 wr w.heap.size v (l ++ [128] ++ List.replicate z 0 ++ (Sha.told (n * 8) 8).take k) ∧ Below w.heap.size w wr) (fun _ t _ => 8 - (intOf t).toNat)
  case atStart => exact ⟨0, by omega, rfl, by rw [List.take_zero, List.append_nil]; exact hown3, hb3⟩
  case round =>
    obtain ⟨k, hk, rfl, hown, hb⟩ := hrel
    clear hown3 hb3 hat3
    by_cases hlt : k < 8
    · have hnx := told_upto (n * 8) 8 k hlt
      have hln : (l ++ [128] ++ List.replicate z (0 : UInt8) ++ (Sha.told (n * 8) 8).take k).length ≤ 100000100 := by
        simp only [List.length_append, List.length_cons, List.length_nil, List.length_replicate, List.length_take, Sha.told_len, HN.out]
        omega
      obtain ⟨acc, hacc⟩ : ∃ y, l ++ [128] ++ List.replicate z (0 : UInt8) ++ (Sha.told (n * 8) 8).take k = y := ⟨_, rfl⟩
      have hnx2 : l ++ [128] ++ List.replicate z (0 : UInt8) ++ (Sha.told (n * 8) 8).take (k + 1) = acc ++ [UInt8.ofNat (n * 8 / 256 ^ (8 - 1 - k))] := by rw [hnx, ← hacc, List.append_assoc _ (List.take k _)]
      rw [hacc] at hown hln
      have HX := Lib.hid hnx2
      clear hnx hacc hnx2
      have e0 : 0 ≤ 56 - 8 * (k : Int) := by omega
      go_wp2_with (first
        | (at_builtin; refine wpList_append_bytes rfl (.tmp 24) (.tmp 36) 40 rfl w.heap.size 5 Tryd.underlying40 (info5 : ByteInfo Tryd.prog 5) _ acc rfl (hown.alloc _) (some ⟨wr.heap.size, 0, none⟩) 1 1 [UInt8.ofNat (n * 8 / 256 ^ (8 - 1 - k))] rfl rfl (Rd.byte1 ?hz) (by omega) (by have := hb.size; simp; omega) ?_; rotate_left; intro v2 w2 hown2 hg2 hat2)
        | fail)
      case hz => exact shift_val n k hlt
      go_roundw
      case rel => exact ⟨k + 1, by omega, by go_num, by rw [HX.out]; exact hown2, (hb.alloc hb.size _).grown hg2 (by have := hb.size; simp; omega) (fun j hj => (hown.at_ j hj).1)⟩
      case measure => simp [intOf]; omega
    · obtain rfl : k = 8 := by omega
      rw [List.take_of_length_le (by rw [Sha.told_len]; omega), ← HP.out] at hown
      go_wp2
      go_ret
      exact ⟨_, rfl, hown, hb⟩
end Go.Proofs.YthabgfghogdkcaaDoor
namespace Go.Proofs.YthabgfghogdkcaaDoor
open Go.RowKit
theorem run_rows1 (W : World) (A : Option Addr) (n c : Nat) : (Instr.buildSlice 98 1 #[(0, .slice A n c)]).run Tryd.prog W = .ok (.slice (some ⟨W.heap.size, 0, none⟩) 1 1) (W.alloc (.cells #[.slice A n c] 40)) := by kernel_rfl
theorem run_rows2 (W : World) (A : Option Addr) (n c : Nat) (B : Option Addr) (m d : Nat) : (Instr.buildSlice 98 2 #[(0, .slice A n c), (1, .slice B m d)]).run Tryd.prog W = .ok (.slice (some ⟨W.heap.size, 0, none⟩) 2 2) (W.alloc (.cells #[.slice A n c, .slice B m d] 40)) := by kernel_rfl
theorem run_rows3 (W : World) (A : Option Addr) (n c : Nat) (B : Option Addr) (m d : Nat) (C : Option Addr) (p e : Nat) : (Instr.buildSlice 98 3 #[(0, .slice A n c), (1, .slice B m d), (2, .slice C p e)]).run Tryd.prog W = .ok (.slice (some ⟨W.heap.size, 0, none⟩) 3 3) (W.alloc (.cells #[.slice A n c, .slice B m d, .slice C p e] 40)) := by kernel_rfl
theorem run_slice_upto {P : Program} {t U : TypeId} {A : Option Addr} {n ca k : Nat} (ht : P.underlying t = some (.slice U)) (hi : ByteInfo P U) (h2 : k ≤ ca) :
    ∀ w : World, (Instr.sliceAt t (.slice A n ca) none (some (.int .i64 (k : Int))) none).run P w = .ok (.slice A k ca) w := fun w => by
  obtain ⟨i, hi0, hz, hs, hb⟩ := info_parts hi
  have he : P.elem t = U := by simp [Program.elem, ht]
  have ht' : P.underlying t = some (.slice (P.elem t)) := by rw [he]; exact ht
  rw [run_sliceAt_slice w t _ _ _ _ ht', run_slice_h w t A n ca ht' .i64 (k : Int) (by omega) (by omega), he]
  have hz : ∀ x : Addr, x.add 0 = x := fun x => by simp [Addr.add]
  simp [sizeOf, typeInfo, hi0, hs, sliced, hz]
theorem run_extract0 {P : Program} (x y : Value) (W : World) : (Instr.extract (.tuple #[x, y]) 0).run P W = .ok x W := by simp [Instr.extract]
theorem run_extract1 {P : Program} (x y : Value) (W : World) : (Instr.extract (.tuple #[x, y]) 1).run P W = .ok y W := by simp [Instr.extract]
end Go.Proofs.YthabgfghogdkcaaDoor
namespace Go.Proofs.YthabgfghogdkcaaDoor
open Go.RowKit
theorem foldN_step (x : Sha.St) (b : List UInt8) (k : Nat) : Sha.foldN (k + 1) x b = Sha.blk (Sha.foldN k x b) ((b.drop (64 * k)).take 64) := by
  rw [Sha.foldN_add]
  rfl
theorem op_arr {P : Program} {Q : Exit → Act → World → Prop} {o : Oper} {a : Act} {W : World} {R : Value → World → Prop} {t : TypeId} {x : Operand} {vx v : Value} (ho : o.op = .sliceToArrayPointer t x) (hx : a.eval x = vx) (hr : (Instr.arrayAt t vx).run P W = .ok v W) (h : R v W) : o.wp P a W (fun a' W' => ∃ v, a' = a.put o.dst v ∧ Later W W' ∧ R v W') Q := by
  refine op_value (v := v) (W' := W) ?_ (Later.refl _) h
  unfold execOp
  simp only [ho, hx, hr, Sem.run_bind, Sem.run_pure, Result.andThen_ok]
theorem run_arr64 {A : Option Addr} {c : Nat} (W : World) : (Instr.arrayAt 94 (.slice A 64 c)).run Tryd.prog W = .ok (.pointer A) W := by
  simp [Instr.arrayAt, run_underlying Tryd.underlying94]
theorem load_rd64 {b o : Nat} {l : List UInt8} {W : World} (hl : l.length = 64) (hr : Rd W (some ⟨b, o, none⟩) l) : (Instr.loadAt 94 (.pointer (some ⟨b, o, none⟩))).run Tryd.prog W = .ok (.agg (l.map byteV).toArray) W := by
  refine run_loadAt_mid W b o 94 (l.map byteV) _ (fun j v hv => ?_) Tryd.underlying94 rfl (by rw [List.length_map, hl]; exact infoB64)
  have hj : j < l.length := by
    rcases Nat.lt_or_ge j l.length with h | h
    · exact h
    · rw [List.getElem?_eq_none (by simpa using h)] at hv; cases hv
  obtain ⟨b', o', e, hc⟩ := hr.at_ hj
  injection e with e
  injection e with e1 e2
  subst e1 e2
  rw [hc, ← hv, List.getElem?_map, List.getElem?_eq_getElem hj]
  rfl
theorem Rd.take {w : World} {A : Option Addr} {l : List UInt8} (h : Rd w A l) (k : Nat) : Rd w A (l.take k) := fun hne => by
  obtain ⟨b, o, e, hc⟩ := h (by intro e; subst e; simp at hne)
  refine ⟨b, o, e, fun i hi => ?_⟩
  rw [List.getElem_take]
  exact hc i (by rw [List.length_take] at hi; omega)
set_option maxHeartbeats 1000000 in
set_option maxRecDepth 100000 in
theorem refSum_any (A : Option Addr) (n ca : Nat) (l : List UInt8) (w : World) (hn : l.length = n) (hm : n ≤ 100000000) (hr : Rd w A l) :
    Calls Tryd.prog 26 #[.slice A n ca] w fun e w' => e = .returned (.agg (hC (Sha.sum l))) ∧ Below w.heap.size w w' := by
  have hpl := Sha.padded_len l
  have hpm : (Sha.padded l).length ≤ 100000200 := by
    simp only [Sha.padded, List.length_append, List.length_cons, Sha.zeros, List.length_replicate, Sha.told_len, Sha.noughts, hn]
    omega
  obtain ⟨pd, hpd⟩ : ∃ y, Sha.padded l = y := ⟨_, rfl⟩
  have hsum : Sha.sum l = Sha.toldSt (Sha.foldN (pd.length / 64) Sha.first pd) := by rw [← hpd]; rfl
  obtain ⟨m, hmm⟩ : ∃ m, pd.length = 64 * m := ⟨pd.length / 64, by rw [hpd] at hpl; omega⟩
  rw [hmm, Nat.mul_div_cancel_left _ (by decide)] at hsum
  rw [hpd] at hpm
  have HPD := Lib.hid hpd
  have HS := Lib.hid hsum
  have HM := Lib.hid hmm
  have HN := Lib.hid hn
  have hfz : Sha.foldN 0 Sha.first pd = Sha.first := rfl
  have HFZ := Lib.hid hfz
  clear hpl hpd hsum hmm hn hfz
  go_enter Tryd.func26, Tryd.ntmps26
  go_upto_region 2 with (first
    | (with_reducible refine wpList_alloc rfl 23 rfl (allocH _) ?_)
    | (with_reducible refine wpList_alloc rfl 90 rfl (alloc8 _) ?_)
    | (go_at_call 52; refine (refFirst_any _).mono ?_; rintro e w1 ⟨rfl, rfl⟩)
    | (refine wpList_store rfl 90 (.tmp 3) (.tmp 5) rfl (.pointer (some ⟨_, 0, none⟩)) (.agg (stC Sha.first 0)) rfl rfl (storeS Sha.first _) ?_)
    | fail)
  obtain ⟨g, hg⟩ : ∃ y, y = w.heap.size := ⟨_, rfl⟩
  have k2 : Row (((w.alloc (.cells (hC []) 23)).alloc (.cells (stC Sha.first 0) 90)).alloc (.cells (stC Sha.first 0) 90)) g 23 (hC []) := ((Row.newAt hg.symm).alloc _).alloc _
  have k3 : Row (((w.alloc (.cells (hC []) 23)).alloc (.cells (stC Sha.first 0) 90)).alloc (.cells (stC Sha.first 0) 90)) (g + 1 + 1) 90 (stC Sha.first 0) := Row.newAt (by simp only [World.size_alloc]; omega)
  have kb : Later w (((w.alloc (.cells (hC []) 23)).alloc (.cells (stC Sha.first 0) 90)).alloc (.cells (stC Sha.first 0) 90)) := (((Later.refl w).alloc _).alloc _).alloc _
  simp only [World.size_alloc]
  rw [← hg]
  have HG := Lib.hid hg
  clear hg
  generalize ((w.alloc (.cells (hC []) 23)).alloc (.cells (stC Sha.first 0) 90)).alloc (.cells (stC Sha.first 0) 90) = w1 at *
  have hpc := refPadded_any A n ca l w1 HN.out hm (hr.later kb)
  go_wp2_with (first
    | (go_at_call 53; refine hpc.mono ?_; clear hpc; rintro e w2 ⟨v, rfl, hown, hb2⟩)
    | fail)
  obtain ⟨A2, c2, rfl, hc1, hc2, hrd2⟩ := hown.slice
  rw [HPD.out] at hrd2 hc1 ⊢
  unfold maxLen at hc2
  have j2 := k2.later hb2
  have j3 := k3.later hb2
  have jb : Below w.heap.size w w2 := kb.call hb2
  have hA2 : ∀ b o, A2 = some ⟨b, o, none⟩ → b ≠ g + 1 + 1 := fun b o e => by
    have h1 := (hown.at_ b (by rw [e]; rfl)).1
    have h2 := k3.lt
    omega
  rw [HM.out] at hc1 ⊢
  clear hown k2 k3 kb hb2
  go_loopw [4] (fun s wr => ∃ k Ak ck, k ≤ m ∧ s = .slice Ak (64 * (m - k)) ck ∧ 64 * (m - k) ≤ ck ∧ ck ≤ 9223372036854775807 ∧ Rd wr Ak (pd.drop (64 * k)) ∧ (∀ b o, Ak = some ⟨b, o, none⟩ → b ≠ g + 1 + 1) ∧ Row wr g 23 (hC []) ∧ Row wr (g + 1 + 1) 90 (stC (Sha.foldN k Sha.first pd) 0) ∧ Below w.heap.size w wr) (fun s _ => lenV s)
  case atStart => exact ⟨0, A2, c2, by omega, rfl, by omega, hc2, by rw [Nat.mul_zero, List.drop_zero]; exact hrd2, hA2, j2, by rw [HFZ.out]; exact j3, jb⟩
  case round =>
    obtain ⟨k, Ak, ck, hk, rfl, hck, hcm, hrk, hAk, h2, h3, hb⟩ := hrel
    clear hrd2 hA2 j2 j3 jb hc1 hc2
    by_cases hlt : k < m
    · have hst := foldN_step Sha.first pd k
      have hlen : (pd.drop (64 * k)).length = 64 * (m - k) := by rw [List.length_drop, HM.out]; omega
      obtain ⟨b, o, rfl, _⟩ := hrk.at_ (k := 0) (by omega)
      have hrb := hrk.take 64
      have hB64 : ((pd.drop (64 * k)).take 64).length = 64 := by rw [List.length_take]; omega
      have HST := Lib.hid hst
      have HB64 := Lib.hid hB64
      clear hst hB64
      generalize (pd.drop (64 * k)).take 64 = B at *
      generalize Sha.foldN k Sha.first pd = X at *
      obtain ⟨nk, hnk⟩ : ∃ y, 64 * (m - k) = y := ⟨_, rfl⟩
      rw [hnk] at hlen hck ⊢
      have hnk0 : 64 ≤ nk := by omega
      have HNK := Lib.hid hnk
      have HLEN := Lib.hid hlen
      clear hnk hlen
      have hsl : ∀ w : World, (Instr.sliceAt 40 (.slice (some ⟨b, o, none⟩) nk ck) none (some (.int .i64 64)) none).run Tryd.prog w = .ok (.slice (some ⟨b, o, none⟩) 64 ck) w :=
        run_slice_upto (k := 64) Tryd.underlying40 (info5 : ByteInfo Tryd.prog 5) (by omega)
      obtain ⟨D, hD, hDr, hDb⟩ := run_slice_from2 (P := Tryd.prog) (A := some ⟨b, o, none⟩) (n := nk) (ca := ck) (k := 64) Tryd.underlying40 (info5 : ByteInfo Tryd.prog 5) hnk0 hck
      have hbne := hAk b o rfl
      have hbne2 : ∀ b' o', D = some ⟨b', o', none⟩ → b' ≠ g + 1 + 1 := fun b' o' e => by
        obtain ⟨ad', e1, e2⟩ := hDb _ e
        injection e1 with e1
        subst e1
        have e3 : b = b' := e2
        rw [← e3]; exact hbne
      have hbs := hb.size
      go_wp2_with fail
      refine (wpIn_wide (n := 0)).1 ?_
      refine wpIn_region_last wide_wide [Pr.eq (.agg (stC X 0)), Pr.eq (.slice (some ⟨b, o, none⟩) nk ck), Pr.eq (.slice (some ⟨b, o, none⟩) 64 ck), Pr.eq (.pointer (some ⟨b, o, none⟩)), Pr.eq (.agg (B.map byteV).toArray), Pr.eq (.agg (stC (Sha.blk X B) 0))] (by kernel_rfl) (by kernel_rfl) (by kernel_rfl) (by kernel_rfl) (by kernel_rfl) (by kernel_rfl) rfl ⟨?_, ?_, ?_, ?_, ?_, ?_, trivial⟩ ?_
      · exact fun ac W hL he => stepOk_want rfl (op_load rfl (he.keep (.tmp 3) (by kernel_rfl)) (run_load_row (h3.later hL) Tryd.underlying90 rfl (by rw [stC_size]; exact info8)) rfl)
      · exact fun ac W hL he => stepOk_want rfl (op_move rfl (he.keep (.tmp 4) (by kernel_rfl)))
      · exact fun ac W hL he => stepOk_want rfl (op_slice (W' := W) rfl (he.get 1 14 (by kernel_rfl) rfl) rfl rfl rfl (hsl W) rfl)
      · exact fun ac W hL he => stepOk_want rfl (op_arr rfl (he.get 2 15 (by kernel_rfl) rfl) (run_arr64 W) rfl)
      · exact fun ac W hL he => stepOk_want rfl (op_load rfl (he.get 3 16 (by kernel_rfl) rfl) (load_rd64 HB64.out (hrb.later hL)) rfl)
      · intro ac W hL he; refine stepOk_want rfl ?_; have e0 : ac.eval (.tmp 13) = (.agg (stC X 0)) := (he.get 0 13 (by kernel_rfl) rfl); have e1 : ac.eval (.tmp 17) = (.agg (B.map byteV).toArray) := (he.get 4 17 (by kernel_rfl) rfl); exact op_callF (vs := #[.agg (stC X 0), .agg (B.map byteV).toArray]) rfl (by simp only [List.map_toArray, List.map_cons, List.map_nil, e0, e1]) (enters_of Tryd.func54 (by kernel_rfl) rfl) ((refPress_any X B W HB64.out).mono fun e W' ⟨he', hb⟩ => ⟨_, he', hb, rfl⟩)
      · intro xs W hL hx hk hg
        have e2 := hg 5 18 (by decide) (by kernel_rfl)
        have v5 : xs 5 = .agg (stC (Sha.blk X B) 0) := hx 5 (by decide)
        rw [v5] at e2
        have e1 := hk (.tmp 3) (by kernel_rfl)
        obtain ⟨W', hstr, hr', hg'⟩ := run_put_row (P := Tryd.prog) (T := 90) (h3.later hL) (vs := stC (Sha.blk X B) 0) (by rw [stC_size, stC_size]) (by rw [stC_size]; exact info8) (stC_one _ _)
        refine last_store rfl rfl e1 e2 hstr ?_
        clear hx hk hg e1 e2 v5 hstr
        have q2 := (h2.later hL).grown hg' (by intro e; injection e with e; omega)
        have qb := (hb.trans (hL.mono hbs)).grown hg' (by have := hL.size; omega) (fun j e => by cases e; have := HG.out; omega)
        have qr := (hrk.later hL).grown hg' (fun b' o' e _ => by injection e with e; injection e with e1 e2; subst e1; intro h; injection h with h; exact hbne h)
        have qd := hDr W' _ HLEN.out qr
        rw [← HST.out] at hr'
        simp only [initL, putL, Nat.reduceAdd, Act.put, List.setIfInBounds_toArray, List.set_cons_succ, List.set_cons_zero]
        have hD' : ∀ w : World, (Instr.slice 40 (.slice (some ⟨b, o, none⟩) nk ck) (some (.int .i64 64)) none none).run Tryd.prog w = .ok (.slice D (nk - 64) (ck - 64)) w := hD
        go_wp2_with fail
        go_roundw
        case rel => exact ⟨k + 1, D, ck - 64, by omega, by rw [show nk - 64 = 64 * (m - (k + 1)) from by have := HNK.out; omega], by have := HNK.out; omega, by omega, by rw [show 64 * (k + 1) = 64 * k + 64 from by omega, ← List.drop_drop]; exact qd, fun b' o' e => hbne2 b' o' e, q2, hr', qb⟩
        case measure => simp [lenV]; omega
    · obtain rfl : k = m := by omega
      rw [Nat.sub_self, Nat.mul_zero]
      have hs32 := hC_size (Sha.sum l) (by rw [Sha.sum_len]; omega)
      have hld := run_load_row (P := Tryd.prog) (T := 90) h3 Tryd.underlying90 rfl (by rw [stC_size]; exact info8)
      have htold := fun W => refTold_any (Sha.foldN k Sha.first pd) W
      have hwg : w.heap.size ≤ g := by have := HG.out; omega
      rw [← HS.out] at htold
      have HS32 := Lib.hid hs32
      clear hs32 h3
      generalize Sha.foldN k Sha.first pd = X at *
      obtain ⟨sm, hsm⟩ : ∃ y, y = Sha.sum l := ⟨_, rfl⟩
      rw [← hsm] at htold HS32
      have HSM := Lib.hid hsm
      clear hsm
      go_wp2_with (first
        | (refine wpList_load rfl 90 (.tmp 3) rfl (.pointer (some ⟨g + 1 + 1, 0, none⟩)) rfl hld ?_)
        | (go_at_call 55; refine (htold _).mono ?_; clear htold; rintro e w7 ⟨rfl, hb7⟩; obtain ⟨W', hst, hr', hg'⟩ := run_put_row (P := Tryd.prog) (T := 23) (h2.belowAll hb7) (vs := hC sm) (by rw [HS32.out]; rfl) (by rw [HS32.out]; exact infoH) (hC_one _))
        | (refine wpList_store rfl 23 (.tmp 2) (.tmp 20) rfl (.pointer (some ⟨g, 0, none⟩)) (.agg (hC sm)) rfl rfl hst ?_)
        | fail)
      refine bodyPost_ret (results_cell_row rfl _ _ g 23 (hC sm) (0, 0) _ rfl hr' Tryd.underlying23 rfl (by rw [HS32.out]; exact infoH)) rfl ⟨by rw [HSM.out], (hb.trans (hb7.mono hb.size)).grown hg' (by have := hb.size; have := Below.size hb7; omega) (fun j e => by cases e; exact hwg)⟩
end Go.Proofs.YthabgfghogdkcaaDoor
namespace Go.Proofs.YthabgfghogdkcaaDoor
open Go.RowKit
theorem hC_cells (B : List UInt8) (h : B.length = 32) : hC B = (B.map Extern.Stop.cell).toArray := by
  unfold hC
  simp [Sha.zeros, h]
  intro a _
  rfl
theorem eqlHash (a b : List UInt8) (ha : a.length = 32) (hb : b.length = 32) (w : World) : (binOp .eql 23 (.agg (hC a)) (.agg (hC b))).run Tryd.prog w = .ok (.bool (a == b)) w := by
  rw [run_eql_struct, hC_cells a ha, hC_cells b hb, run_equalIn_bytes w 9998 23 5 32 Tryd.underlying23 Tryd.underlying5 (fun w => by kernel_rfl) a b ha hb]
  simp
theorem neqHash (a b : List UInt8) (ha : a.length = 32) (hb : b.length = 32) (w : World) : (binOp .neq 23 (.agg (hC a)) (.agg (hC b))).run Tryd.prog w = .ok (.bool (!(a == b))) w := by
  rw [run_neq_struct, hC_cells a ha, hC_cells b hb, run_equalIn_bytes w 9998 23 5 32 Tryd.underlying23 Tryd.underlying5 (fun w => by kernel_rfl) a b ha hb]
  simp
theorem eqgHash (b : BinOp) (x y : Operand) (xs ys : Array Value) (w : World) : (eqGuard b 23 x y (.agg xs) (.agg ys)).run Tryd.prog w = .ok () w := run_eqGuard_agg w b _ x y xs ys (by kernel_rfl)
theorem eqlSame (a : List UInt8) (ha : a.length = 32) (w : World) : (binOp .eql 23 (.agg (hC a)) (.agg (hC a))).run Tryd.prog w = .ok (.bool true) w := by rw [eqlHash a a ha ha, beq_self_eq_true]
theorem Rd.byteZ {w : World} {t : TypeId} {z : Int} (h0 : 0 ≤ z) (h1 : z < 256) : Rd (w.alloc (.cells #[.int .u8 z] t)) (some ⟨w.heap.size, 0, none⟩) [UInt8.ofNat z.toNat] :=
  Rd.byte1 (by rw [UInt8.toNat_ofNat']; omega)
end Go.Proofs.YthabgfghogdkcaaDoor
namespace Go.Proofs.YthabgfghogdkcaaDoor
open Go.ChangeShapes Go.WideShapes Go.ChangeAt Go.RowKit
def byteOfV : Value → UInt8
  | .int _ z => UInt8.ofNat z.toNat
  | _ => 0
theorem open_arr8 {H : Type} {enc : TypeId × Value → H} {P : Program} {w : World} {r : Reach} {b0 base : Nat} {spare : Nat → Bool} {held : Bool} {t e : TypeId} {n : Nat} {v : Value} {d : DataW H} {ps : List MemPlace} (ht : P.underlying t = some (.array n e)) (he : P.underlying e = some (.int .u8)) (hce : P.cellsOf e = 1) (hct : P.cellsOf t = n)
    (hval : Value.okWide P w r b0 t v) (hd : DataW.Trod enc P w base spare held t v d ps) : ∃ l : List UInt8, l.length = n ∧ v = .agg (l.map byteV).toArray := by
  obtain ⟨cs, rfl, hsz, _⟩ : ∃ cs, v = .agg cs ∧ cs.size = P.cellsOf t ∧ Row.okWide P w r b0 t cs := by
    simpa [Value.okWide, ht] using hval
  obtain ⟨fuel, hf⟩ := hd
  obtain ⟨xs, m, rfl, _, _, hn, hx⟩ := DataW.trod_array ht hf
  rw [hct] at hsz
  have hcell : ∀ i, i < n → ∃ z : Int, cs[i]? = some (.int .u8 z) ∧ 0 ≤ z ∧ z ≤ 255 := by
    intro i hi
    have h := hx i hi
    rw [hce, Nat.mul_one, List.getElem?_eq_getElem (by omega)] at h
    obtain ⟨z, hz, _, hw⟩ := DataW.trod_int he h
    refine ⟨z, ?_, ?_⟩
    · have hcl : i < cs.toList.length := by simp; omega
      simp only [Value.cells] at hz
      rw [List.drop_eq_getElem_cons hcl] at hz
      simp only [List.take_succ_cons, List.take_zero] at hz
      injection hz with hz
      rw [← hz, ← Array.getElem?_toList, List.getElem?_eq_getElem hcl]
    · simp [Lit.wf, IntKind.min, IntKind.max, IntKind.signed, IntKind.bits] at hw
      omega
  refine ⟨cs.toList.map byteOfV, by simp; exact hsz, ?_⟩
  congr 1
  apply Array.ext_getElem?
  intro i
  by_cases hi : i < n
  · obtain ⟨z, hz, h1, h2⟩ := hcell i hi
    have hz' : cs.toList[i]? = some (.int .u8 z) := by rw [Array.getElem?_toList]; exact hz
    simp only [List.getElem?_toArray, List.getElem?_map, hz', Option.map_some, hz, byteOfV]
    congr 1
    unfold byteV
    congr 1
    rw [UInt8.toNat_ofNat']
    omega
  · rw [Array.getElem?_eq_none (by omega), Array.getElem?_eq_none (by simp; omega)]
theorem hC_full (h : List UInt8) (hl : h.length = 32) : hC h = (h.map byteV).toArray := by
  unfold hC
  simp [Sha.zeros, hl]
end Go.Proofs.YthabgfghogdkcaaDoor
namespace Go.Proofs.YthabgfghogdkcaaDoor
open Go.RowKit
theorem conv_rd (w : World) (l : List UInt8) (hl : l.length ≤ 9223372036854775807) : ∃ W cap, (convert 9 40 (.string ⟨l.toArray⟩)).run Tryd.prog w = .ok (.slice (some ⟨w.heap.size, 0, none⟩) l.length cap) W ∧ Rd W (some ⟨w.heap.size, 0, none⟩) l ∧ l.length ≤ cap ∧ cap ≤ 9223372036854775807 ∧ Later w W := by
  refine ⟨_, _, Lib.run_convert_string_bytes (P := Tryd.prog) w 9 40 5 ⟨l.toArray⟩ Tryd.underlying9 Tryd.underlying40 Tryd.underlying5, fun _ => ⟨_, _, rfl, fun i hi => ?_⟩, grownCap_ge _ _ _ _, ?_, ⟨rfl, rfl, rfl, by rw [Lib.bytesWorld_size]; omega, fun b hb => Lib.bytesWorld_at_old _ _ _ b hb⟩⟩
  · rw [cell_of_row _ _ (0 + i) _ _ _ (Lib.bytesWorld_at_new _ _ _), Nat.zero_add]
    simp [Lib.bytesCells, Array.getElem?_append, hi]
  · have := grownCap_le_maxLen w l.length 0 5 (by unfold maxLen; exact hl)
    unfold maxLen at this
    exact this
theorem op_conv {P : Program} {Q : Exit → Act → World → Prop} {o : Oper} {a : Act} {W : World} {R : Value → World → Prop} {s t : TypeId} {x : Operand} {vx : Value} (ho : o.op = .convert s t x) (hx : a.eval x = vx) {v : Value} {W' : World} (hr : (convert s t vx).run P W = .ok v W') (hL : Later W W') (h : R v W') : o.wp P a W (fun a' W' => ∃ v, a' = a.put o.dst v ∧ Later W W' ∧ R v W') Q := op_convert ho hx hr hL h
end Go.Proofs.YthabgfghogdkcaaDoor
namespace Go.Proofs.YthabgfghogdkcaaDoor
open Go.RowKit
theorem infoRow : (Tryd.prog.info? 40).map (fun i => (i.zero, i.size, i.bytes)) = some (some (.slice none 0 0), 1, 24) := by kernel_rfl
/-- A slice of slices, whose bytes lay in an elder world. -/
def RdsW (w0 w : World) (A : Option Addr) (ls : List (List UInt8)) : Prop :=
  ls ≠ [] → ∃ b o, A = some ⟨b, o, none⟩ ∧ ∀ i (h : i < ls.length), ∃ Ai ci, w.cell? ⟨b, o + i, none⟩ = some (.slice Ai ls[i].length ci) ∧ ls[i].length ≤ ci ∧ ci ≤ 9223372036854775807 ∧ Rd w0 Ai ls[i]
theorem RdsC.toW {w : World} {A : Option Addr} {ls : List (List UInt8)} (h : RdsC w A ls) : RdsW w w A ls := h
theorem RdsW.toC {w0 w : World} {A : Option Addr} {ls : List (List UInt8)} (h : RdsW w0 w A ls) (hL : Later w0 w) : RdsC w A ls := fun hl => by
  obtain ⟨b, o, e, hc⟩ := h hl
  refine ⟨b, o, e, fun i hi => ?_⟩
  obtain ⟨Ai, ci, h1, h2, h3, h4⟩ := hc i hi
  exact ⟨Ai, ci, h1, h2, h3, h4.later hL⟩
theorem RdsW.later {w0 w w' : World} {A : Option Addr} {ls : List (List UInt8)} (h : RdsW w0 w A ls) (hb : Later w w') : RdsW w0 w' A ls := fun hl => by
  obtain ⟨b, o, e, hc⟩ := h hl
  refine ⟨b, o, e, fun i hi => ?_⟩
  obtain ⟨Ai, ci, h1, h2, h3, h4⟩ := hc i hi
  exact ⟨Ai, ci, hb.cell h1, h2, h3, h4⟩
theorem RdsW.at_ {w0 w : World} {A : Option Addr} {ls : List (List UInt8)} (h : RdsW w0 w A ls) {k : Nat} (hk : k < ls.length) : ∃ b o Ai ci, A = some ⟨b, o, none⟩ ∧ w.cell? ⟨b, o + k, none⟩ = some (.slice Ai ls[k].length ci) ∧ ls[k].length ≤ ci ∧ ci ≤ 9223372036854775807 ∧ Rd w0 Ai ls[k] := by
  obtain ⟨b, o, e, hc⟩ := h (by intro e; subst e; simp at hk)
  obtain ⟨Ai, ci, h1⟩ := hc k hk
  exact ⟨b, o, Ai, ci, e, h1⟩
theorem RdsW.two {w0 w : World} {A B : Option Addr} {n c m d b : Nat} {l k : List UInt8} (t : TypeId) (hb : w.heap.size = b) (h : Rd w0 A l) (hn : l.length = n) (hc : n ≤ c) (hcm : c ≤ 9223372036854775807) (h2 : Rd w0 B k) (hm : k.length = m) (hd : m ≤ d) (hdm : d ≤ 9223372036854775807) :
    RdsW w0 (w.alloc (.cells #[.slice A n c, .slice B m d] t)) (some ⟨b, 0, none⟩) [l, k] := fun _ => by
  subst hb hn hm
  refine ⟨_, _, rfl, fun i hi => ?_⟩
  rcases i with _ | _ | i
  · exact ⟨A, c, ((Row.new w t _).cell 0).trans rfl, hc, hcm, h⟩
  · exact ⟨B, d, ((Row.new w t _).cell 1).trans rfl, hd, hdm, h2⟩
  · exact absurd hi (by simp)
theorem IsRun.noslice {w : World} {g i : Nat} {l : List UInt8} {A : Option Addr} {n c : Nat} (h : IsRun w g l) : w.cell? ⟨g, i, none⟩ ≠ some (.slice A n c) := by
  obtain ⟨p, hp, _, hr⟩ := h
  intro e
  rw [hr.cell] at e
  have hm := Array.mem_of_getElem? e
  unfold runC at hm
  rw [List.mem_toArray, List.mem_append, List.mem_append] at hm
  rcases hm with hm | hm | hm
  · obtain ⟨i, hi, e2⟩ := List.mem_map.1 hm; cases e2
  · obtain ⟨i, hi, e2⟩ := List.mem_map.1 hm; cases e2
  · simp at hm
theorem RdsW.keepRun {w0 w w' : World} {A : Option Addr} {ls : List (List UInt8)} {g : Nat} {l : List UInt8} (h : RdsW w0 w A ls) (hr : IsRun w g l) (hg : w.grownBy w' (some g)) : RdsW w0 w' A ls := fun hl => by
  obtain ⟨b, o, e, hc⟩ := h hl
  refine ⟨b, o, e, fun i hi => ?_⟩
  obtain ⟨Ai, ci, h1, h2, h3, h4⟩ := hc i hi
  exact ⟨Ai, ci, hg.cell h1 (by intro e2; injection e2 with e2; rw [show b = g from e2] at h1; exact hr.noslice h1), h2, h3, h4⟩
def Pr.rows2 (w0 : World) (ls : List (List UInt8)) : Pr := ⟨fun v W => ∃ g, v = .slice (some ⟨g, 0, none⟩) 2 2 ∧ RdsW w0 W (some ⟨g, 0, none⟩) ls, fun _ _ _ ⟨g, e, h⟩ hL => ⟨g, e, h.later hL⟩⟩
def Pr.rdsW (w0 : World) (n : Nat) (ls : List (List UInt8)) : Pr := ⟨fun v W => ∃ A c, v = .slice A n c ∧ n ≤ c ∧ RdsW w0 W A ls, fun _ _ _ ⟨A, c, e, hc, h⟩ hL => ⟨A, c, e, hc, h.later hL⟩⟩
section
variable {P : Program}
def cellsAt (w : World) (b o n : Nat) : List Value := (List.range n).map fun i => (w.cell? ⟨b, o + i, none⟩).getD undef
theorem cellsAt_len (w : World) (b o n : Nat) : (cellsAt w b o n).length = n := by simp [cellsAt]
theorem cellsAt_get {w : World} {b o n i : Nat} (h : i < n) : (cellsAt w b o n)[i]? = some ((w.cell? ⟨b, o + i, none⟩).getD undef) := by simp [cellsAt, h]
theorem cellsAt_cell {w : World} {b o n : Nat} (h : ∀ i, i < n → ∃ v, w.cell? ⟨b, o + i, none⟩ = some v) : ∀ j v, (cellsAt w b o n)[j]? = some v → w.cell? ((⟨b, o, none⟩ : Addr).add j) = some v := fun j v hv => by
  have hj : j < n := by
    rcases Nat.lt_or_ge j n with h1 | h1
    · exact h1
    · rw [List.getElem?_eq_none (by rw [cellsAt_len]; exact h1)] at hv; cases hv
  rw [cellsAt_get hj] at hv
  obtain ⟨u, hu⟩ := h j hj
  rw [hu] at hv
  injection hv with hv
  rw [show (⟨b, o, none⟩ : Addr).add j = ⟨b, o + j, none⟩ from by
    rcases Nat.eq_zero_or_pos j with rfl | hp
    · rfl
    · simp [Addr.add, Nat.ne_of_gt hp], hu, ← hv]
  rfl
theorem RdsW.cells {w0 w : World} {b o : Nat} {ls : List (List UInt8)} (h : RdsW w0 w (some ⟨b, o, none⟩) ls) : ∀ i, i < ls.length → ∃ v, w.cell? ⟨b, o + i, none⟩ = some v := fun i hi => by
  obtain ⟨b', o', A, c, e, hc, _⟩ := h.at_ hi
  injection e with e
  injection e with e1 e2
  subst e1 e2
  exact ⟨_, hc⟩
theorem run_append_rows (w0 w : World) (t ty U : TypeId) (ht : P.underlying t = some (.slice U)) (hi : (P.info? U).map (fun i => (i.zero, i.size, i.bytes)) = some (some (.slice none 0 0), 1, 24)) (g n : Nat) (xs : List (List UInt8)) (hn : xs.length = n) (hx : RdsW w0 w (some ⟨g, 0, none⟩) xs)
    (B : Option Addr) (m c : Nat) (ys : List (List UInt8)) (hm : ys.length = m) (hy : RdsW w0 w B ys) (hs : n + m ≤ 1000000000000) :
    ∃ D d w', (Builtin.append_ #[t, t] ty #[.slice (some ⟨g, 0, none⟩) n n, .slice B m c]).run P w = .ok (.slice D (n + m) d) w' ∧ RdsW w0 w' D (xs ++ ys) ∧ n + m ≤ d ∧ Later w w' := by
  obtain ⟨i, hi0, hz, hsz, hby⟩ := info_parts hi
  subst hn hm
  rcases Nat.eq_zero_or_pos ys.length with h0 | h0
  · have hy0 : ys = [] := List.eq_nil_of_length_eq_zero h0
    subst hy0
    refine ⟨some ⟨g, 0, none⟩, xs.length, w, ?_, by simpa using hx, Nat.le_refl _, Later.refl w⟩
    rcases B with _ | ad
    · simp [Builtin.append_, run_underlying ht, sizeOf, typeInfo, hi0, hsz, Builtin.lenOf, Builtin.firstCells, storeCells]
    · simp [Builtin.append_, run_underlying ht, sizeOf, typeInfo, hi0, hsz, Builtin.lenOf, Builtin.firstCells, loadCells, loadCellsFrom, storeCells]
  · obtain ⟨b, o, rfl, _⟩ := hy (by intro e; subst e; simp at h0)
    have hr := run_append_grow (P := P) w t ty U i (.slice none 0 0) ht hi0 hz ⟨g, 0, none⟩ xs.length xs.length (cellsAt w g 0 xs.length) (by rw [cellsAt_len, hsz, Nat.mul_one]) (cellsAt_cell hx.cells) ⟨b, o, none⟩ ys.length c (cellsAt w b o ys.length) (by rw [cellsAt_len, hsz, Nat.mul_one]) (cellsAt_cell hy.cells) (by omega) (by omega) (by
      rw [hby]
      have := nextslicecap_le (need := xs.length + ys.length) (old := xs.length) (by omega)
      omega)
    refine ⟨_, _, _, hr, fun _ => ⟨w.heap.size, 0, rfl, fun j hj => ?_⟩, grownCap_ge _ _ _ _, ((Later.refl w).drew).alloc _⟩
    have hc : ∀ q, (w.drew.alloc (.cells ((cellsAt w g 0 xs.length).toArray ++ (cellsAt w b o ys.length).toArray ++ Builtin.zeroCells (Value.slice none 0 0).cells q) U)).cell? ⟨w.heap.size, 0 + j, none⟩ = (cellsAt w g 0 xs.length ++ cellsAt w b o ys.length)[j]? := fun q => by
      rw [show w.heap.size = w.drew.heap.size from rfl, (Row.new w.drew _ _).cell, Nat.zero_add, Array.getElem?_append_left (by simp [cellsAt_len]; simpa using hj)]
      simp
    rw [hc]
    by_cases hj1 : j < xs.length
    · obtain ⟨b', o', A', c', e, h1, h2, h3, h4⟩ := hx.at_ hj1
      injection e with e
      injection e with e1 e2
      subst e1 e2
      refine ⟨A', c', ?_, ?_, h3, ?_⟩
      · rw [List.getElem?_append_left (by rw [cellsAt_len]; exact hj1), cellsAt_get hj1, h1, List.getElem_append_left hj1]
        rfl
      · rw [List.getElem_append_left hj1]; exact h2
      · rw [List.getElem_append_left hj1]; exact h4
    · have hj2 : j - xs.length < ys.length := by simp at hj; omega
      obtain ⟨b', o', A', c', e, h1, h2, h3, h4⟩ := hy.at_ hj2
      injection e with e
      injection e with e1 e2
      subst e1 e2
      refine ⟨A', c', ?_, ?_, h3, ?_⟩
      · rw [List.getElem?_append_right (by rw [cellsAt_len]; omega), cellsAt_len, cellsAt_get hj2, h1, List.getElem_append_right (by omega)]
        rfl
      · rw [List.getElem_append_right (by omega)]; exact h2
      · rw [List.getElem_append_right (by omega)]; exact h4
theorem op_append_rows {Q : Exit → Act → World → Prop} {o : Oper} {a : Act} {w0 w : World} {R : Value → World → Prop} {s x : Operand} {t U : TypeId} {g n : Nat} {xs ys : List (List UInt8)} {B : Option Addr} {m c : Nat}
    (ho : o.op = .call { callee := .builtin .append, args := #[s, x], argTypes := #[t, t] }) (ht : P.underlying t = some (.slice U)) (hi : (P.info? U).map (fun i => (i.zero, i.size, i.bytes)) = some (some (.slice none 0 0), 1, 24))
    (es : a.eval s = .slice (some ⟨g, 0, none⟩) n n) (ex : a.eval x = .slice B m c) (hn : xs.length = n) (hx : RdsW w0 w (some ⟨g, 0, none⟩) xs) (hm : ys.length = m) (hy : RdsW w0 w B ys) (hs : n + m ≤ 1000000000000)
    (h : ∀ D d w', RdsW w0 w' D (xs ++ ys) → n + m ≤ d → Later w w' → R (.slice D (n + m) d) w') : o.wp P a w (fun a' W' => ∃ v, a' = a.put o.dst v ∧ Later w W' ∧ R v W') Q := by
  obtain ⟨D, d, w', hr, h1, h2, h3⟩ := run_append_rows (P := P) w0 w t o.type U ht hi g n xs hn hx B m c ys hm hy hs
  refine op_value (v := .slice D (n + m) d) (W' := w') ?_ h3 (h D d w' h1 h2 h3)
  unfold execOp
  simp only [ho, resolve, invoke, builtin, Sem.run_bind, Sem.run_pure, Result.andThen_ok, List.map_toArray, List.map_cons, List.map_nil, es, ex, hr]
end
end Go.Proofs.YthabgfghogdkcaaDoor
namespace Go.Proofs.YthabgfghogdkcaaDoor
open Go.RowKit
set_option maxRecDepth 100000 in
set_option maxHeartbeats 4000000 in
theorem named_any (s : List UInt8) (A : Option Addr) (n cap : Nat) (ls : List (List UInt8)) (w : World) (hs : s.length ≤ 100000000) (hn : ls.length = n) (hm : n ≤ 100000000) (hmax : ls.flatten.length ≤ 900000000) (hr : RdsC w A ls) :
    Calls Tryd.prog 34 #[.string ⟨s.toArray⟩, .slice A n cap] w fun e w' => e = .returned (.agg (hC (Sha.sum (Sha.sum s ++ Sha.sum s ++ ls.flatten)))) ∧ Below w.heap.size w w' := by
  obtain ⟨tag, htag⟩ : ∃ y, Sha.sum s = y := ⟨_, rfl⟩
  have htl : tag.length = 32 := by rw [← htag]; exact Sha.sum_len _
  have hflat : tag ++ tag ++ ls.flatten = ([tag, tag] ++ ls).flatten := by simp
  have hrowA := Row.new w 23 (hC [])
  have hbA := below_new w (.cells (hC []) 23)
  obtain ⟨wc, cp, hcv, hrd, hcp1, hcp2, hLc⟩ := conv_rd (w.alloc (.cells (hC []) 23)) s (by omega)
  have hcall := sum_at (some ⟨(w.alloc (.cells (hC []) 23)).heap.size, 0, none⟩) s.length cp s tag 40 wc hrd rfl hcp1 hcp2 (by omega) htag
  rw [World.size_alloc] at hcv hcall
  have hbc := hbA.trans (hLc.mono hbA.size)
  have hrowC := (hrowA.later hLc).alloc (.cells #[.slice (some ⟨w.heap.size + 1, 0, none⟩) s.length cp] 40)
  have hbD := hbc.alloc hbc.size (.cells #[.slice (some ⟨w.heap.size + 1, 0, none⟩) s.length cp] 40)
  rw [htag, hflat]
  have HC := Lib.hid hcall
  have HR := Lib.hid hr
  have HN := Lib.hid hn
  have HT := Lib.hid htl
  have HMAX := Lib.hid hmax
  clear htag hcall hrowA hbA hLc hbc hrd hr hn htl hmax hflat
  go_enter Tryd.func34, Tryd.ntmps34
  go_upto_region 2 with (first
    | (with_reducible refine wpList_alloc rfl 23 rfl (allocH _) ?_)
    | (refine wpList_buildSl rfl 98 1 _ rfl #[(0, .slice (some ⟨w.heap.size + 1, 0, none⟩) s.length cp)] rfl (build1S _ _ _ _) ?_)
    | (go_at_call 51; refine HC.out.mono ?_; rintro e w1 ⟨rfl, hb1⟩; have hrow1 := hrowC.below hb1 (by have := hrowC.lt; simp only [World.size_alloc] at this; omega); have hb1' := hbD.trans (hb1.mono (by have := hbD.size; simp only [World.size_alloc] at this; omega)); obtain ⟨w5, hst, hr5, hg5⟩ := storeH (a := []) (b := tag) (by simp) (by rw [HT.out]; omega) (Row.new w1 23 (hC [])))
    | (refine wpList_store rfl 23 (.tmp 5) (.tmp 12) rfl (.pointer (some ⟨w1.heap.size, 0, none⟩)) (.agg (hC tag)) rfl rfl hst ?_)
    | fail)
  obtain ⟨g5, hg5e⟩ : ∃ y, y = w1.heap.size := ⟨_, rfl⟩
  rw [← hg5e] at hr5 hg5 ⊢
  have hrl := hrow1.lt
  have hrow5 := (hrow1.alloc (.cells (hC []) 23)).grown hg5 (by intro e; injection e with e; omega)
  have hwg5 : w.heap.size < g5 := by omega
  have hb5 := (hb1'.alloc hb1'.size (.cells (hC []) 23)).grown hg5 (by have := hb1'.size; simp only [World.size_alloc]; omega) (fun j e => by cases e; omega)
  clear HC hb1 hb1' hrow1 hbD hrowC hst hg5 hg5e hcv hrl
  go_upto_region 3 with (first
    | (go_at_call 57; refine (new_any _).mono ?_; rintro e w6 ⟨g, rfl, hrun6, hg6, hb6⟩)
    | fail)
  have hrt := Lib.hid (rd_hash HT.out hr5)
  have hR5 := Lib.hid ((HR.out.below hb5).toW)
  have hL56 : Hid (Later w5 w6) := Lib.hid (show Later w5 w6 from hb6)
  have HB5 := Lib.hid hb5
  have hrow6 := hrow5.belowAll hb6
  have hg5l := hr5.lt
  have hw5 : w.heap.size < w5.heap.size := by omega
  clear hr5 hrow5 hb5 hb6
  refine (wpIn_wide (n := 0)).1 ?_
  refine wpIn_region_vals wide_wide [Pr.eq (.slice (some ⟨g5, 0, none⟩) 32 32), Pr.eq (.slice (some ⟨g5, 0, none⟩) 32 32), Pr.rows2 w5 [tag, tag], Pr.eq (.slice A n cap), Pr.rdsW w5 (2 + n) ([tag, tag] ++ ls), Pr.eq (.int .i64 ((2 + n : Nat) : Int)), Pr.eq (.int .i64 0)] (by kernel_rfl) (by kernel_rfl) (by kernel_rfl) (by kernel_rfl) (by kernel_rfl) ⟨?_, ?_, ?_, ?_, ?_, ?_, ?_, trivial⟩ ?_
  · exact fun ac W hL he => stepOk_want rfl (op_slice (W' := W) rfl (he.keep (.tmp 5) (by kernel_rfl)) rfl rfl rfl (sliceHash W) rfl)
  · exact fun ac W hL he => stepOk_want rfl (op_slice (W' := W) rfl (he.keep (.tmp 5) (by kernel_rfl)) rfl rfl rfl (sliceHash W) rfl)
  · intro ac W hL he; refine stepOk_want rfl ?_; have e0 : ac.eval (.tmp 14) = (.slice (some ⟨g5, 0, none⟩) 32 32) := (he.get 0 14 (by kernel_rfl) rfl); have e1 : ac.eval (.tmp 15) = (.slice (some ⟨g5, 0, none⟩) 32 32) := (he.get 1 15 (by kernel_rfl) rfl); exact op_buildSlice (W' := _) (vs := #[(0, .slice (some ⟨g5, 0, none⟩) 32 32), (1, .slice (some ⟨g5, 0, none⟩) 32 32)]) rfl (by simp only [List.map_toArray, List.map_cons, List.map_nil, e0, e1]) (run_rows2 W _ _ _ _ _ _) ((Later.refl W).alloc _) ⟨_, rfl, RdsW.two 40 rfl hrt.out HT.out (Nat.le_refl _) (by decide) hrt.out HT.out (Nat.le_refl _) (by decide)⟩
  · exact fun ac W hL he => stepOk_want rfl (op_move rfl (he.keep (.tmp 1) (by kernel_rfl)))
  · intro ac W hL he; refine stepOk_want rfl ?_; obtain ⟨gr, er, hrr⟩ : ∃ g, ac.eval (.tmp 16) = .slice (some ⟨g, 0, none⟩) 2 2 ∧ RdsW w5 W (some ⟨g, 0, none⟩) [tag, tag] := he.get 2 16 (by kernel_rfl) rfl; exact op_append_rows rfl Tryd.underlying98 infoRow er (he.get 3 17 (by kernel_rfl) rfl) rfl hrr HN.out (hR5.out.later (hL56.out.step hL)) (by omega) (fun D d w' h1 h2 _ => ⟨D, d, rfl, h2, h1⟩)
  · intro ac W hL he; refine stepOk_want rfl ?_; obtain ⟨D, d, er, _, _⟩ : ∃ D d, ac.eval (.tmp 18) = .slice D (2 + n) d ∧ 2 + n ≤ d ∧ RdsW w5 W D ([tag, tag] ++ ls) := he.get 4 18 (by kernel_rfl) rfl; exact op_len Tryd.underlying98 rfl er rfl
  · exact fun ac W hL he => stepOk_want rfl (op_move rfl rfl)
  · intro xs W hL hx
    obtain ⟨D, d, v4, hd, hrD⟩ : ∃ D d, xs 4 = .slice D (2 + n) d ∧ 2 + n ≤ d ∧ RdsW w5 W D ([tag, tag] ++ ls) := hx 4 (by decide)
    have v5 : xs 5 = .int .i64 ((2 + n : Nat) : Int) := hx 5 (by decide)
    have v6 : xs 6 = .int .i64 0 := hx 6 (by decide)
    clear hx
    simp only [putL, Nat.reduceAdd, Act.put, List.setIfInBounds_toArray, List.set_cons_succ, List.set_cons_zero, v4, v5, v6]
    clear v4 v5 v6 HR hrt hR5
    have hrunW := hrun6.later hL
    have hrowW := hrow6.later hL
    have hLW : Later w5 W := hL56.out.step hL
    have hlen : ([tag, tag] ++ ls).length = 2 + n := by rw [List.length_append, HN.out]; rfl
    have hfl : ([tag, tag] ++ ls).flatten.length ≤ 900000100 := by
      have h1 := HMAX.out
      have h2 := HT.out
      simp only [List.cons_append, List.nil_append, List.flatten_cons, List.length_append]
      omega
    obtain ⟨qs, hqs⟩ : ∃ y, y = [tag, tag] ++ ls := ⟨_, rfl⟩
    rw [← hqs] at hlen hfl hrD
    obtain ⟨m, hmm⟩ : ∃ y, y = 2 + n := ⟨_, rfl⟩
    rw [← hmm] at hlen hd ⊢
    have HQS := Lib.hid hqs
    have HQ := Lib.hid hlen
    have HF := Lib.hid hfl
    have HM := Lib.hid (show m ≤ 100000002 by omega)
    clear hrun6 hrow6 hL hlen hfl HN HMAX hL56 hqs hmm HT
    go_wp2_with fail
    go_loopw [20] (fun t wr => ∃ k : Nat, k ≤ m ∧ t = .int .i64 k ∧ IsRun wr g (qs.take k).flatten ∧ Row wr w.heap.size 23 (hC []) ∧ RdsW w5 wr D qs ∧ Later w5 wr) (fun t _ => m - (intOf t).toNat)
    case atStart => exact ⟨0, by omega, rfl, hrunW, hrowW, hrD, hLW⟩
    case round =>
      obtain ⟨k, hk, rfl, hrun, hrow, hrd, hL⟩ := hrel
      clear hrunW hrowW hrD hLW
      have hm1 := HM.out
      by_cases hlt : k < m
      · have hltq : k < qs.length := by rw [HQ.out]; exact hlt
        obtain ⟨b, o, Ai, ci, rfl, hc, hci, hcm, hrd1⟩ := hrd.at_ hltq
        have hrd5 := hrd1.later hL
        have hlt1 : ∀ ad, Ai = some ad → qs[k] ≠ [] → ad.block ≠ g := fun ad e hl => by
          obtain ⟨b', o', e', _⟩ := hrd1 hl
          rw [e] at e'
          injection e' with e'
          have := hrd1.lt (e.trans (congrArg some e')) hl
          rw [e']
          exact Nat.ne_of_lt (Nat.lt_of_lt_of_le this hg6)
        have hnext : (qs.take (k + 1)).flatten = (qs.take k).flatten ++ qs[k] := by
          rw [List.take_succ_eq_append_getElem hltq, List.flatten_append]; simp
        have hpl : (qs.take k).flatten.length + qs[k].length ≤ 1099511627776 := by
          have := take_flat qs (k + 1)
          have h2 := HF.out
          rw [hnext, List.length_append] at this
          omega
        have HNX := Lib.hid hnext
        have HL1 := Lib.hid hlt1
        have HRD := Lib.hid hrd
        clear hnext hlt1 hrd1 hrd
        generalize (qs.take k).flatten = z at *
        generalize qs[k] = l at *
        go_wp2_with (first | (go_at_call 58; refine (write_any g z Ai _ ci l _ hrun rfl hci hcm hrd5 HL1.out hpl).mono ?_; rintro e w7 ⟨rfl, hrun7, hg7⟩) | fail)
        have hrow7 := hrow.grown hg7 (by intro e; injection e with e; omega)
        have hL7 : Later w5 w7 := Below.grown hL hg7 hL.size (fun j e => by cases e; omega)
        have hrd7 := HRD.out.keepRun hrun hg7
        go_roundw
        case rel => exact ⟨k + 1, by omega, by go_num, by rw [HNX.out]; exact hrun7, hrow7, hrd7, hL7⟩
        case measure => simp [intOf]; omega
      · obtain rfl : k = m := by omega
        rw [List.take_of_length_le (by rw [HQ.out]; omega)] at hrun
        have hLF := HF.out
        obtain ⟨z, hz⟩ : ∃ z, qs.flatten = z := ⟨_, rfl⟩
        rw [hz] at hrun hLF
        have hzl : (Sha.sum z).length = 32 := Sha.sum_len _
        have HZ := Lib.hid hz
        have HZL := Lib.hid hzl
        clear hz hrd hzl
        go_wp2_with (first
          | (go_at_call 59; refine (runSum_any g z _ hrun (by omega)).mono ?_; rintro e w8 ⟨rfl, hb8⟩; have hrow8 := hrow.belowAll hb8; obtain ⟨w9, hst, hr9, hg9⟩ := storeH (a := []) (b := Sha.sum z) (by simp) (by rw [HZL.out]; omega) hrow8)
          | (refine wpList_store rfl 23 (.tmp 4) (.tmp 29) rfl (.pointer (some ⟨w.heap.size, 0, none⟩)) (.agg (hC (Sha.sum z))) rfl rfl hst ?_)
          | fail)
        have hbA := HB5.out.trans ((hL.call hb8).below.mono HB5.out.size)
        refine bodyPost_ret (results_cell_row rfl _ _ w.heap.size 23 (hC (Sha.sum z)) (0, 0) _ rfl hr9 Tryd.underlying23 rfl (by rw [hC_size _ (by rw [HZL.out]; omega)]; exact infoH)) rfl ⟨by rw [← HZ.out, HQS.out]; rfl, hbA.grown hg9 hbA.size (fun j e => by cases e; exact Nat.le_refl _)⟩
end Go.Proofs.YthabgfghogdkcaaDoor
namespace Go.Proofs.YthabgfghogdkcaaDoor
open Go.RowKit
set_option maxRecDepth 100000 in
set_option maxHeartbeats 2000000 in
theorem refNamed_any (s : List UInt8) (A : Option Addr) (n ca : Nat) (l : List UInt8) (w : World) (hs : s.length ≤ 10000000) (hn : l.length = n) (hm : n ≤ 10000000) (hr : Rd w A l) :
    Calls Tryd.prog 35 #[.string ⟨s.toArray⟩, .slice A n ca] w fun e w' => e = .returned (.agg (hC (Sha.sum (Sha.sum s ++ Sha.sum s ++ l)))) ∧ Below w.heap.size w w' := by
  obtain ⟨tag, htag⟩ : ∃ y, Sha.sum s = y := ⟨_, rfl⟩
  have htl : tag.length = 32 := by rw [← htag]; exact Sha.sum_len _
  have hrowA := Row.new w 23 (hC [])
  have hbA := below_new w (.cells (hC []) 23)
  obtain ⟨wc, cp, hcv, hrd, hcp1, hcp2, hLc⟩ := conv_rd (w.alloc (.cells (hC []) 23)) s (by omega)
  have hcall := refSum_any (some ⟨(w.alloc (.cells (hC []) 23)).heap.size, 0, none⟩) s.length cp s wc rfl (by omega) hrd
  rw [World.size_alloc] at hcv hcall
  rw [htag] at hcall
  have hbc := hbA.trans (hLc.mono hbA.size)
  have hrowC := hrowA.later hLc
  rw [htag]
  have HC := Lib.hid hcall
  have HR := Lib.hid hr
  have HN := Lib.hid hn
  have HT := Lib.hid htl
  clear htag hcall hrowA hbA hLc hrd hr hn htl
  go_enter Tryd.func35, Tryd.ntmps35
  go_upto_region 2 with (first
    | (with_reducible refine wpList_alloc rfl 23 rfl (allocH _) ?_)
    | (go_at_call 26; refine HC.out.mono ?_; rintro e w1 ⟨rfl, hb1⟩; have hrow1 := hrowC.belowAll hb1; have hb1' := hbc.trans (hb1.mono hbc.size); obtain ⟨w5, hst, hr5, hg5⟩ := storeH (a := []) (b := tag) (by simp) (by rw [HT.out]; omega) (Row.new w1 23 (hC [])))
    | (refine wpList_store rfl 23 (.tmp 5) (.tmp 10) rfl (.pointer (some ⟨w1.heap.size, 0, none⟩)) (.agg (hC tag)) rfl rfl hst ?_)
    | fail)
  obtain ⟨g5, hg5e⟩ : ∃ y, y = w1.heap.size := ⟨_, rfl⟩
  rw [← hg5e] at hr5 hg5 ⊢
  have hrl := hrow1.lt
  have hrow5 := (hrow1.alloc (.cells (hC []) 23)).grown hg5 (by intro e; injection e with e; omega)
  have hb5 := (hb1'.alloc hb1'.size (.cells (hC []) 23)).grown hg5 (by have := hb1'.size; simp only [World.size_alloc]; omega) (fun j e => by cases e; omega)
  have hg5l := hr5.lt
  have hR5 := Lib.hid (HR.out.below hb5)
  clear HC hb1 hb1' hrow1 hbc hrowC hst hg5 hg5e hcv hrl HR
  go_wp2_with fail
  go_loopw [6, 7] (fun v t wr => ∃ k : Nat, k ≤ 2 ∧ t = .int .i64 k ∧ Own 5 wr w5.heap.size v (List.replicate k tag).flatten ∧ Later w5 wr) (fun _ t _ => 2 - (intOf t).toNat)
  case atStart => exact ⟨0, by omega, rfl, Own.nil _ _ _, Later.refl _⟩
  case round =>
    obtain ⟨k, hk, rfl, hown, hL⟩ := hrel
    have hLs := hL.size
    by_cases hlt : k < 2
    · have hnx : (List.replicate (k + 1) tag).flatten = (List.replicate k tag).flatten ++ tag := by rw [List.replicate_succ', List.flatten_append]; simp
      have hln : (List.replicate k tag).flatten.length ≤ 64 := by
        rw [List.length_flatten, List.map_replicate, List.sum_replicate_nat, HT.out]
        omega
      have HNX := Lib.hid hnx
      have hrt := rd_hash HT.out (hr5.later hL)
      clear hnx
      generalize (List.replicate k tag).flatten = acc at *
      go_wp2_with (first
        | (refine wpList_slice0 rfl 23 (.tmp 5) rfl (.pointer (some ⟨g5, 0, none⟩)) rfl (sliceHash _) ?_)
        | (at_builtin; refine wpList_append_bytes rfl (.tmp 15) (.tmp 16) 40 rfl w5.heap.size 5 Tryd.underlying40 byteInfo8 _ acc rfl hown (some ⟨g5, 0, none⟩) 32 32 tag rfl HT.out hrt (by omega) hLs ?_; intro v2 w2 hown2 hg2 hat2)
        | fail)
      go_roundw
      case rel => exact ⟨k + 1, by omega, by go_num, by rw [HNX.out]; exact hown2, Below.grown hL hg2 hLs (fun j e => (hown.at_ j e).1)⟩
      case measure => simp [intOf]; omega
    · obtain rfl : k = 2 := by omega
      have h2 : (List.replicate 2 tag).flatten = tag ++ tag := by simp [List.replicate]
      rw [h2] at hown
      have hrl := hR5.out.later hL
      have hrowW := hrow5.later hL
      have hln : (tag ++ tag).length = 64 := by rw [List.length_append, HT.out]
      have hbW := hb5.trans (hL.below.mono hb5.size)
      have htot : (tag ++ tag ++ l).length = 64 + n := by rw [List.length_append, hln, HN.out]
      have HTOT := Lib.hid htot
      have hslen : (Sha.sum (tag ++ tag ++ l)).length = 32 := Sha.sum_len _
      have HSL := Lib.hid hslen
      clear h2 hslen htot
      obtain ⟨tt, htt⟩ : ∃ y, y = tag ++ tag := ⟨_, rfl⟩
      rw [← htt] at HTOT HSL hown hln
      have HTT := Lib.hid htt
      clear htt
      obtain ⟨sm, hsm⟩ : ∃ y, y = Sha.sum (tt ++ l) := ⟨_, rfl⟩
      have HSM := Lib.hid hsm
      clear hsm
      go_wp2_with (first
        | (at_builtin; refine wpList_append_bytes rfl (.tmp 18) (.tmp 19) 40 rfl w5.heap.size 5 Tryd.underlying40 byteInfo8 _ tt rfl hown A n ca l rfl HN.out hrl (by omega) hLs ?_; intro v2 w2 hown2 hg2 hat2; have hL2 : Later w5 w2 := Below.grown hL hg2 hLs (fun j e => (hown.at_ j e).1); obtain ⟨A2, c2, rfl, _, _, hrd2⟩ := hown2.slice; have hcs := refSum_any A2 (tt ++ l).length c2 (tt ++ l) w2 rfl (by rw [HTOT.out]; omega) hrd2; rw [← HSM.out, HTOT.out] at hcs; rw [HTOT.out]; have HCS := Lib.hid hcs; clear hcs; have hrow2 := hrow5.later hL2; have hb2 := hb5.trans (hL2.below.mono hb5.size))
        | (go_at_call 26; refine HCS.out.mono ?_; clear HCS; rintro e w8 ⟨rfl, hb8⟩; have hrow8 := hrow2.belowAll hb8; obtain ⟨w9, hst, hr9, hg9⟩ := storeH (a := []) (b := sm) (by simp) (by rw [HSM.out, HSL.out]; omega) hrow8)
        | (refine wpList_store rfl 23 (.tmp 4) (.tmp 21) rfl (.pointer (some ⟨w.heap.size, 0, none⟩)) (.agg (hC sm)) rfl rfl hst ?_)
        | fail)
      have hbA := hb2.trans (hb8.mono hb2.size)
      refine bodyPost_ret (results_cell_row rfl _ _ w.heap.size 23 (hC sm) (0, 0) _ rfl hr9 Tryd.underlying23 rfl (by rw [hC_size _ (by rw [HSM.out, HSL.out]; omega)]; exact infoH)) rfl ⟨by rw [HSM.out, HTT.out], hbA.grown hg9 hbA.size (fun j e => by cases e; exact Nat.le_refl _)⟩
end Go.Proofs.YthabgfghogdkcaaDoor
namespace Go.Proofs.YthabgfghogdkcaaDoor
open Go.RowKit
section
variable {P : Program} {Q : Exit → Act → World → Prop}
structure InvG (G : World → World → Prop) (ops : Array Oper) (a0 : Act) (w : World) (V : Nat → Value → World → Prop) (l : Array Bool) (a : Act) (W : World) : Prop where
  size : l.size = ops.size
  closed : ∀ i j, l.getD i false = true → waits ops i j = true → l.getD j false = true
  later : G w W
  act : ∃ xs : Nat → Value, a = laid ops a0 l xs ops.size ∧ ∀ j, j < ops.size → l.getD j false = true → V j (xs j) W
def StepOkE (P : Program) (ops : Array Oper) (Q : Exit → Act → World → Prop) (E : World → World → Prop) (o : Oper) (a : Act) (W : World) (R : Value → World → Prop) : Prop :=
  if Region.wanted o (yielded ops a.tmps) then o.wp P a W (fun a' W' => ∃ v, a' = a.put o.dst v ∧ E W W' ∧ R v W') Q else R undef W
theorem stepOkE_want {ops : Array Oper} {E : World → World → Prop} {o : Oper} {a : Act} {W : World} {R : Value → World → Prop} (hg : o.guard = none) (h : o.wp P a W (fun a' W' => ∃ v, a' = a.put o.dst v ∧ E W W' ∧ R v W') Q) : StepOkE P ops Q E o a W R := by
  unfold StepOkE
  rw [if_pos (by unfold Region.wanted; rw [hg])]
  exact h
theorem stepOkE_later {ops : Array Oper} {E : World → World → Prop} {o : Oper} {a : Act} {W : World} {R : Value → World → Prop} (hE : ∀ W', Later W W' → E W W') (hg : o.guard = none) (h : o.wp P a W (fun a' W' => ∃ v, a' = a.put o.dst v ∧ Later W W' ∧ R v W') Q) : StepOkE P ops Q E o a W R :=
  stepOkE_want hg (Oper.wp_mono (fun a' W' ⟨v, h1, h2, h3⟩ => ⟨v, h1, hE W' h2, h3⟩) h)
theorem wpAnyIn_tail2E {F : Fence} (hF : Wide F) {n : Nat} {ops : Array Oper} (hp : plainAll ops = true) (hd : dstsB ops = true) (hb : backB ops = true) {m : Nat} (ha : anc2B ops m = true) {a0 : Act} (hin : dstIn ops a0.tmps.size = true) {w : World} (hm : ops.size = m + 2) {last y : Oper} (hlast : ops[m]? = some last) (hy : ops[m + 1]? = some y) (hyg : y.guard = none) (hyw : waits ops (m + 1) m = true)
    (E : Nat → World → World → Prop) (G : World → World → Prop) (hEr : ∀ i W, E i W W) (hG : ∀ i W W', G w W → E i W W' → G w W') (V : Nat → Value → World → Prop) (hV : ∀ i j v W W', j ≠ i → V j v W → E i W W' → V j v W')
    (step : ∀ i o a W, i < m → ops[i]? = some o → G w W → Env ops a0 V i a W → StepOkE P ops Q (E i) o a W (V i))
    (fin : ∀ xs W, G w W → (∀ j, j < m → V j (xs j) W) → (∀ x, keepsB ops m x = true → (putL (ops.toList.take m) 0 xs a0).eval x = a0.eval x) → (∀ j t, j < m → dstOf ops j = some t → (putL (ops.toList.take m) 0 xs a0).eval (.tmp t) = xs j) →
      Region.wanted last (yielded ops (putL (ops.toList.take m) 0 xs a0).tmps) = true ∧ last.wp P (putL (ops.toList.take m) 0 xs a0) W (fun a' W' => y.wp P a' W' (fun a W => Q .normal a W) Q) Q) :
    ∀ (fuel : Nat) (l : Array Bool) (a : Act) (W : World), l.toList.count false ≤ fuel → l.getD m false = false → l.getD (m + 1) false = false → InvG G ops a0 w V l a W → wpAnyIn F n P .any ops Q fuel l a W := by
  have hlaid : ∀ (l : Array Bool) (xs : Nat → Value), l.getD m false = false → l.getD (m + 1) false = false → (∀ i, i < m → l.getD i false = true) → laid ops a0 l xs ops.size = putL (ops.toList.take m) 0 xs a0 := fun l xs hf hf1 hl => by
    rw [hm, laid, if_neg (by rw [hf1]; simp), laid, if_neg (by rw [hf]; simp)]
    have key : ∀ (os : List Oper) (k : Nat), k + os.length = m → (∀ j, j < os.length → os[j]? = ops[k + j]?) → putL os k xs (laid ops a0 l xs k) = laid ops a0 l xs m := by
      intro os
      induction os with
      | nil => intro k hk _; rw [show m = k from by simpa using hk.symm]; rfl
      | cons o os ih =>
        intro k hk hos
        rw [putL]
        have h0 : ops[k]? = some o := by have := hos 0 (by simp); simpa using this.symm
        have e : (laid ops a0 l xs k).put o.dst (xs k) = laid ops a0 l xs (k + 1) := by
          rw [laid, if_pos (hl k (by simp at hk; omega))]
          unfold dstOf
          rw [h0]
        rw [e]
        refine ih (k + 1) (by simp at hk; omega) (fun j hj => ?_)
        have := hos (j + 1) (by simp; omega)
        rw [List.getElem?_cons_succ] at this
        rw [this]
        congr 1
        omega
    refine (key (ops.toList.take m) 0 (by simp; omega) (fun j hj => ?_)).symm
    rw [List.getElem?_take_of_lt (by simp at hj; omega)]
    simp
  intro fuel
  induction fuel with
  | zero =>
    intro l a W hc hlf hlf1 hI
    exfalso
    have hmm : m < l.size := by rw [hI.size]; omega
    have hmem : false ∈ l.toList := by
      have : l[m] = false := by simpa [Array.getD, hmm] using hlf
      rw [← this]; exact Array.mem_toList_iff.2 (Array.getElem_mem hmm)
    have := List.count_pos_iff.2 hmem
    omega
  | succ fuel ih =>
    intro l a W hc hlf hlf1 hI
    refine ⟨fun hr => ?_, fun i hi => ?_⟩
    · have := ready_nil hb hI.size hr m (by omega)
      rw [hlf] at this; cases this
    obtain ⟨h1, o, ho, hdeps⟩ := mem_ready.1 hi
    have hlt : i < ops.size := (Array.getElem?_eq_some_iff.1 ho).1
    have hi' : i < l.size := by rw [hI.size]; exact hlt
    have hf : l.getD i false = false := by simp [Array.getD, hi'] at h1 ⊢; exact h1
    obtain ⟨xs, rfl, hx⟩ := hI.act
    have hdst : dstOf ops i = o.dst := by unfold dstOf; rw [ho]
    have hwl : ∀ j, waits ops i j = true → l.getD j false = true := fun j hw => by
      unfold waits at hw
      rw [ho] at hw
      obtain ⟨k, hk, h2⟩ := Array.any_eq_true.1 hw
      simp at h2
      rw [← h2.2]
      exact hdeps _ (Array.getElem_mem hk) h2.1
    have hjlt : ∀ j t, dstOf ops j = some t → j < ops.size := fun j t h => by
      unfold dstOf at h
      cases hj : ops[j]? with
      | none => rw [hj] at h; cases h
      | some o' => exact (Array.getElem?_eq_some_iff.1 hj).1
    have hts : ∀ j t, dstOf ops j = some t → t < a0.tmps.size := fun j t h => by
      unfold dstIn at hin
      rw [List.all_eq_true] at hin
      have := hin j (List.mem_range.2 (hjlt j t h))
      rw [h] at this
      simpa using this
    have hkeep : ∀ x, keepsB ops i x = true → (laid ops a0 l xs ops.size).eval x = a0.eval x := fun x hk => laid_keep x _ (fun j d hj hjd hl hx' => by
        subst hx'
        unfold keepsB at hk
        rw [List.all_eq_true] at hk
        have h3 := hk j (List.mem_range.2 hj)
        rw [hjd] at h3
        simp at h3
        rcases h3 with h3 | h3
        · subst h3; rw [hf] at hl; cases hl
        · have := hI.closed j i hl h3
          rw [hf] at this; cases this)
    have hget : ∀ j t, l.getD j false = true → dstOf ops j = some t → (laid ops a0 l xs ops.size).eval (.tmp t) = xs j := fun j t hl ht => laid_get hd ht hl (hts j t ht) _ (Nat.le_refl _) (hjlt j t ht)
    by_cases him : i = m
    · subst him
      have hall' : ∀ j, j < i → l.getD j false = true := anc2_all ha hI.closed hwl
      obtain rfl : o = last := by rw [ho] at hlast; exact Option.some.inj hlast
      have hf2 := fin xs W hI.later (fun j hj => hx j (by omega) (hall' j hj)) (fun x hk => by rw [← hlaid l xs hf hlf1 hall']; exact hkeep x hk) (fun j t hj ht => by rw [← hlaid l xs hf hlf1 hall']; exact hget j t (hall' j hj) ht)
      rw [← hlaid l xs hf hlf1 hall'] at hf2
      obtain ⟨hw2, hf2⟩ := hf2
      have hpl := plainAll_get hp ho
      have hend : ∀ a' W', y.wp P a' W' (fun a W => Q .normal a W) Q → wpAnyIn F n P .any ops Q fuel (l.setIfInBounds i true) a' W' := fun a' W' hq => by
        have hsz : (l.setIfInBounds i true).size = ops.size := by rw [Array.size_setIfInBounds, hI.size]
        have hself : (l.setIfInBounds i true).getD i false = true := by simp [Array.getD, hi']
        have hset : ∀ j, j ≠ i → (l.setIfInBounds i true).getD j false = l.getD j false := fun j hj => getD_set_ne false (fun e => hj e.symm)
        have h1f : (l.setIfInBounds i true).getD (i + 1) false = false := by rw [hset _ (by omega)]; exact hlf1
        have hcount : 0 < fuel := by
          have hil : i < l.toList.length := by simpa using hi'
          have hlv : l.toList[i] = false := by simpa [Array.getD, hi'] using hf
          have hc2 := List.count_set (a := true) (b := false) (l := l.toList) (i := i) hil
          rw [hlv, if_pos (show (false == false) = true from rfl), if_neg (show ¬ (true == false) = true from by decide)] at hc2
          have h1l : i + 1 < (l.toList.set i true).length := by rw [List.length_set, Array.length_toList, hI.size]; omega
          have hmem : false ∈ l.toList.set i true := by
            have e : (l.toList.set i true)[i + 1] = false := by
              have : i + 1 < l.size := by rw [hI.size]; omega
              rw [List.getElem_set_ne (by omega)]
              simpa [Array.getD, this] using hlf1
            rw [← e]; exact List.getElem_mem h1l
          have := List.count_pos_iff.2 hmem
          omega
        obtain ⟨f2, rfl⟩ : ∃ f2, fuel = f2 + 1 := ⟨fuel - 1, by omega⟩
        refine ⟨fun hr => ?_, fun k hk => ?_⟩
        · have := ready_nil hb hsz hr (i + 1) (by omega)
          rw [h1f] at this; cases this
        · obtain ⟨h1, o', ho', _⟩ := mem_ready.1 hk
          have hklt : k < ops.size := (Array.getElem?_eq_some_iff.1 ho').1
          have hk' : k < (l.setIfInBounds i true).size := by rw [hsz]; exact hklt
          have hkf : (l.setIfInBounds i true).getD k false = false := by
            generalize l.setIfInBounds i true = l' at *
            simp [Array.getD, hk'] at h1 ⊢
            exact h1
          have hki : k = i + 1 := by
            rcases Nat.lt_trichotomy k i with h | h | h
            · rw [hset k (by omega), hall' k h] at hkf; cases hkf
            · subst h; rw [hself] at hkf; cases hkf
            · omega
          subst hki
          obtain rfl : o' = y := by rw [ho'] at hy; exact Option.some.inj hy
          have hfin : ∀ a3 W3, Q .normal a3 W3 → wpAnyIn F n P .any ops Q f2 ((l.setIfInBounds i true).setIfInBounds (i + 1) true) a3 W3 := fun a3 W3 hq3 => by
            refine wpAnyIn_done ?_ hq3 _
            rw [List.eq_nil_iff_forall_not_mem]
            intro q hq4
            obtain ⟨g1, o4, ho4, _⟩ := mem_ready.1 hq4
            have hqlt : q < ops.size := (Array.getElem?_eq_some_iff.1 ho4).1
            have hq' : q < ((l.setIfInBounds i true).setIfInBounds (i + 1) true).size := by rw [Array.size_setIfInBounds, hsz]; exact hqlt
            have g2 : ((l.setIfInBounds i true).setIfInBounds (i + 1) true).getD q false = true := by
              by_cases e : q = i + 1
              · subst e
                simp [Array.getD]
                rw [hI.size]; exact hklt
              · rw [getD_set_ne false (fun e' => e e'.symm)]
                by_cases e2 : q = i
                · subst e2; exact hself
                · rw [hset q e2]; exact hall' q (by omega)
            generalize (l.setIfInBounds i true).setIfInBounds (i + 1) true = l' at *
            simp [Array.getD, hq'] at g1 g2
            rw [g2] at g1
            cases g1
          unfold wpOpIn
          rw [ho']
          simp only
          rw [if_pos (by unfold Region.wanted; rw [hyg])]
          exact Oper.wpIn_mono (fun a3 W3 h3 => hfin a3 W3 h3) (opIn_of_op hF (plainAll_get hp ho') hq)
      unfold wpOpIn
      rw [ho]
      simp only
      rw [if_pos hw2]
      exact Oper.wpIn_mono (fun a' W' h => hend a' W' h) (opIn_of_op hF hpl hf2)
    · by_cases him1 : i = m + 1
      · subst him1
        exfalso
        have := hwl m hyw
        rw [hlf] at this; cases this
      have henv : Env ops a0 V i (laid ops a0 l xs ops.size) W := ⟨hkeep, fun j t hw ht => by
        rw [hget j t (hwl j hw) ht]
        exact hx j (hjlt j t ht) (hwl j hw)⟩
      have hs := step i o _ W (by omega) ho hI.later henv
      have hset : ∀ j, j ≠ i → (l.setIfInBounds i true).getD j false = l.getD j false := fun j hj => getD_set_ne false (fun e => hj e.symm)
      have next : ∀ v W', E i W W' → V i v W' → InvG G ops a0 w V (l.setIfInBounds i true) ((laid ops a0 l xs ops.size).put o.dst v) W' := fun v W' hL hv => by
        refine ⟨by simpa using hI.size, fun p q hp hw => ?_, hG i _ _ hI.later hL, (fun j => if j = i then v else xs j), ?_, fun j hj hl => ?_⟩
        · by_cases e : p = i
          · subst e
            exact getD_set_true (hwl q hw)
          · rw [hset p e] at hp
            exact getD_set_true (hI.closed p q hp hw)
        · rw [← hdst]
          exact laid_put hd v hi' hf _ (Nat.le_refl _) hlt
        · show V j (if j = i then v else xs j) W'
          by_cases e : j = i
          · subst e; rw [if_pos rfl]; exact hv
          · rw [if_neg e]
            rw [hset j e] at hl
            exact hV i j _ W W' e (hx j hj hl) hL
      have hcnt : (l.setIfInBounds i true).toList.count false ≤ fuel := by
        have hil : i < l.toList.length := by simpa using hi'
        have hlv : l.toList[i] = false := by simpa [Array.getD, hi'] using hf
        have := List.count_set (a := true) (b := false) (l := l.toList) (i := i) hil
        rw [Array.toList_setIfInBounds, this, hlv, if_pos (show (false == false) = true from rfl), if_neg (show ¬ (true == false) = true from by decide)]
        have hp : 0 < l.toList.count false := List.count_pos_iff.2 (by rw [← hlv]; exact List.getElem_mem hil)
        omega
      have hlf' : (l.setIfInBounds i true).getD m false = false := by rw [hset m (fun e => him e.symm)]; exact hlf
      have hlf1' : (l.setIfInBounds i true).getD (m + 1) false = false := by rw [hset (m + 1) (fun e => him1 e.symm)]; exact hlf1
      unfold wpOpIn
      rw [ho]
      unfold StepOkE at hs
      simp only
      split
      · rename_i hw
        rw [if_pos hw] at hs
        refine Oper.wpIn_mono (fun a' W' h => ?_) (opIn_of_op hF (plainAll_get hp ho) hs)
        obtain ⟨v, rfl, hL, hv⟩ := h
        exact ih _ _ _ hcnt hlf' hlf1' (next v W' hL hv)
      · rename_i hw
        rw [if_neg hw] at hs
        exact ⟨fun f _ => hF.fn f, ih _ _ _ hcnt hlf' hlf1' (next undef W (hEr i W) hs)⟩
theorem wpIn_region_last2E {F : Fence} (hF : Wide F) {n : Nat} {id : Nat} {o o2 : Oper} {os : List Oper} {a0 : Act} {w : World} (E : Nat → World → World → Prop) (G : World → World → Prop) (hEr : ∀ i W, E i W W) (hG : ∀ i W W', G w W → E i W W' → G w W') (hG0 : G w w.drew) (V : Nat → Value → World → Prop) (hV : ∀ i j v W W', j ≠ i → V j v W → E i W W' → V j v W') (hm : P.follows .mixedOrders = true) (hp : plainAll (o :: o2 :: os).toArray = true) (hd : dstsB (o :: o2 :: os).toArray = true) (hb : backB (o :: o2 :: os).toArray = true) (ha : anc2B (o :: o2 :: os).toArray (init2 o o2 os).length = true) (hin : dstIn (o :: o2 :: os).toArray a0.tmps.size = true)
    (hg : (pen2 o o2 os).guard = none) (hg2 : (last2 o o2 os).guard = none) (hyw : waits (o :: o2 :: os).toArray ((init2 o o2 os).length + 1) (init2 o o2 os).length = true)
    (step : AllFrom (fun i o' => ∀ a W, G w W → Env (o :: o2 :: os).toArray a0 V i a W → StepOkE P (o :: o2 :: os).toArray Q (E i) o' a W (V i)) 0 (init2 o o2 os))
    (fin : ∀ xs W, G w W → (∀ j, j < (init2 o o2 os).length → V j (xs j) W) → (∀ x, keepsB (o :: o2 :: os).toArray (init2 o o2 os).length x = true → (putL (init2 o o2 os) 0 xs a0).eval x = a0.eval x) → (∀ j t, j < (init2 o o2 os).length → dstOf (o :: o2 :: os).toArray j = some t → (putL (init2 o o2 os) 0 xs a0).eval (.tmp t) = xs j) →
      LastOk2 P (pen2 o o2 os) (last2 o o2 os) (putL (init2 o o2 os) 0 xs a0) W Q) : (Code.region id (o :: o2 :: os).toArray true).wpIn F n P Q a0 w := by
  have e := init2_eq os o o2
  rw [← e] at hp hd hb ha hin step fin hyw ⊢
  generalize init2 o o2 os = l at *
  generalize pen2 o o2 os = x at *
  generalize last2 o o2 os = y at *
  have htake : (l ++ [x, y]).toArray.toList.take l.length = l := by simp
  refine wpIn_region_any hm (wpAnyIn_tail2E hF hp hd hb (m := l.length) ha hin (last := x) (y := y) (by simp) (by simp) (by simp) hg2 hyw E G hEr hG V hV (fun i o a W hi ho hL he => ?_) (fun xs W hL hx hk hg' => ?_) _ _ _ _ ?_ ?_ ?_ ⟨by simp, fun i j hi _ => ?_, hG0, fun _ => undef, ?_, fun j hj hl => ?_⟩)
  · have h := allFrom_get l 0 step i o (by
      rw [List.getElem?_toArray, List.getElem?_append_left hi] at ho
      exact ho)
    rw [Nat.zero_add] at h
    exact h a W hL he
  · rw [htake] at hk hg' ⊢
    exact ⟨by unfold Region.wanted; rw [hg], (fin xs W hL hx hk hg').run⟩
  · simp
  · simp [Array.getD]
  · simp [Array.getD]
  · exfalso
    simp [Array.getD] at hi
  · have : ∀ k, laid (l ++ [x, y]).toArray a0 (Array.replicate (l ++ [x, y]).toArray.size false) (fun _ => undef) k = a0 := fun k => by
      induction k with
      | zero => rfl
      | succ k ih => rw [laid, if_neg (by simp [Array.getD]), ih]
    exact (this _).symm
  · exfalso
    simp [Array.getD] at hl
end
end Go.Proofs.YthabgfghogdkcaaDoor
namespace Go.Proofs.YthabgfghogdkcaaDoor
open Go.RowKit
def upd (xs : Nat → Value) (i : Nat) (v : Value) : Nat → Value := fun j => if j = i then v else xs j
theorem upd_self (xs : Nat → Value) (i : Nat) (v : Value) : upd xs i v i = v := if_pos rfl
theorem upd_ne (xs : Nat → Value) {i j : Nat} (v : Value) (h : j ≠ i) : upd xs i v j = xs j := if_neg h
section
variable {P : Program} {Q : Exit → Act → World → Prop}
structure InvX (G : World → World → Prop) (ops : Array Oper) (a0 : Act) (w : World) (V : Nat → (Nat → Value) → World → Prop) (l : Array Bool) (a : Act) (W : World) : Prop where
  size : l.size = ops.size
  closed : ∀ i j, l.getD i false = true → waits ops i j = true → l.getD j false = true
  later : G w W
  act : ∃ xs : Nat → Value, a = laid ops a0 l xs ops.size ∧ ∀ j, j < ops.size → l.getD j false = true → V j xs W
structure EnvX (ops : Array Oper) (a0 : Act) (V : Nat → (Nat → Value) → World → Prop) (i : Nat) (a : Act) (W : World) (xs : Nat → Value) : Prop where
  keep : ∀ x, keepsB ops i x = true → a.eval x = a0.eval x
  val : ∀ j t, waits ops i j = true → dstOf ops j = some t → a.eval (.tmp t) = xs j
  get : ∀ j, j < ops.size → waits ops i j = true → V j xs W
theorem wpAnyIn_tailX {F : Fence} (hF : Wide F) {n : Nat} {ops : Array Oper} (hp : plainAll ops = true) (hd : dstsB ops = true) (hb : backB ops = true) (ha : ancB ops = true) {a0 : Act} (hin : dstIn ops a0.tmps.size = true) {w : World} {m : Nat} (hm : ops.size = m + 1) {last : Oper} (hlast : ops[m]? = some last)
    (E : Nat → World → World → Prop) (G : World → World → Prop) (hEr : ∀ i W, E i W W) (hG : ∀ i W W', G w W → E i W W' → G w W') (V : Nat → (Nat → Value) → World → Prop) (hV : ∀ i j xs v W W', j < ops.size → j ≠ i → waits ops j i = false → V j xs W → E i W W' → V j (upd xs i v) W')
    (step : ∀ i o a W xs, i < m → ops[i]? = some o → G w W → EnvX ops a0 V i a W xs → StepOkE P ops Q (E i) o a W (fun v W' => V i (upd xs i v) W'))
    (fin : ∀ xs W, G w W → (∀ j, j < m → V j xs W) → (∀ x, keepsB ops m x = true → (putL (ops.toList.take m) 0 xs a0).eval x = a0.eval x) → (∀ j t, j < m → dstOf ops j = some t → (putL (ops.toList.take m) 0 xs a0).eval (.tmp t) = xs j) →
      if Region.wanted last (yielded ops (putL (ops.toList.take m) 0 xs a0).tmps) then last.wp P (putL (ops.toList.take m) 0 xs a0) W (fun a' W' => Q .normal a' W') Q else Q .normal ((putL (ops.toList.take m) 0 xs a0).put last.dst undef) W) :
    ∀ (fuel : Nat) (l : Array Bool) (a : Act) (W : World), l.toList.count false ≤ fuel → l.getD m false = false → InvX G ops a0 w V l a W → wpAnyIn F n P .any ops Q fuel l a W := by
  have hlaid : ∀ (l : Array Bool) (xs : Nat → Value), l.getD m false = false → (∀ i, i < m → l.getD i false = true) → laid ops a0 l xs ops.size = putL (ops.toList.take m) 0 xs a0 := fun l xs hf hl => by
    rw [hm, laid, if_neg (by rw [hf]; simp)]
    have key : ∀ (os : List Oper) (k : Nat), k + os.length = m → (∀ j, j < os.length → os[j]? = ops[k + j]?) → putL os k xs (laid ops a0 l xs k) = laid ops a0 l xs m := by
      intro os
      induction os with
      | nil => intro k hk _; rw [show m = k from by simpa using hk.symm]; rfl
      | cons o os ih =>
        intro k hk hos
        rw [putL]
        have h0 : ops[k]? = some o := by have := hos 0 (by simp); simpa using this.symm
        have e : (laid ops a0 l xs k).put o.dst (xs k) = laid ops a0 l xs (k + 1) := by
          rw [laid, if_pos (hl k (by simp at hk; omega))]
          unfold dstOf
          rw [h0]
        rw [e]
        refine ih (k + 1) (by simp at hk; omega) (fun j hj => ?_)
        have := hos (j + 1) (by simp; omega)
        rw [List.getElem?_cons_succ] at this
        rw [this]
        congr 1
        omega
    refine (key (ops.toList.take m) 0 (by simp; omega) (fun j hj => ?_)).symm
    rw [List.getElem?_take_of_lt (by simp at hj; omega)]
    simp
  intro fuel
  induction fuel with
  | zero =>
    intro l a W hc hlf hI
    exfalso
    have hmm : m < l.size := by rw [hI.size]; omega
    have hmem : false ∈ l.toList := by
      have : l[m] = false := by simpa [Array.getD, hmm] using hlf
      rw [← this]; exact Array.mem_toList_iff.2 (Array.getElem_mem hmm)
    have := List.count_pos_iff.2 hmem
    omega
  | succ fuel ih =>
    intro l a W hc hlf hI
    refine ⟨fun hr => ?_, fun i hi => ?_⟩
    · have := ready_nil hb hI.size hr m (by omega)
      rw [hlf] at this; cases this
    obtain ⟨h1, o, ho, hdeps⟩ := mem_ready.1 hi
    have hlt : i < ops.size := (Array.getElem?_eq_some_iff.1 ho).1
    have hi' : i < l.size := by rw [hI.size]; exact hlt
    have hf : l.getD i false = false := by simp [Array.getD, hi'] at h1 ⊢; exact h1
    obtain ⟨xs, rfl, hx⟩ := hI.act
    have hdst : dstOf ops i = o.dst := by unfold dstOf; rw [ho]
    have hwl : ∀ j, waits ops i j = true → l.getD j false = true := fun j hw => by
      unfold waits at hw
      rw [ho] at hw
      obtain ⟨k, hk, h2⟩ := Array.any_eq_true.1 hw
      simp at h2
      rw [← h2.2]
      exact hdeps _ (Array.getElem_mem hk) h2.1
    have hjlt : ∀ j t, dstOf ops j = some t → j < ops.size := fun j t h => by
      unfold dstOf at h
      cases hj : ops[j]? with
      | none => rw [hj] at h; cases h
      | some o' => exact (Array.getElem?_eq_some_iff.1 hj).1
    have hts : ∀ j t, dstOf ops j = some t → t < a0.tmps.size := fun j t h => by
      unfold dstIn at hin
      rw [List.all_eq_true] at hin
      have := hin j (List.mem_range.2 (hjlt j t h))
      rw [h] at this
      simpa using this
    have hkeep : ∀ x, keepsB ops i x = true → (laid ops a0 l xs ops.size).eval x = a0.eval x := fun x hk => laid_keep x _ (fun j d hj hjd hl hx' => by
        subst hx'
        unfold keepsB at hk
        rw [List.all_eq_true] at hk
        have h3 := hk j (List.mem_range.2 hj)
        rw [hjd] at h3
        simp at h3
        rcases h3 with h3 | h3
        · subst h3; rw [hf] at hl; cases hl
        · have := hI.closed j i hl h3
          rw [hf] at this; cases this)
    have hget : ∀ j t, l.getD j false = true → dstOf ops j = some t → (laid ops a0 l xs ops.size).eval (.tmp t) = xs j := fun j t hl ht => laid_get hd ht hl (hts j t ht) _ (Nat.le_refl _) (hjlt j t ht)
    by_cases him : i = m
    · subst him
      have hall := anc_all ha hI.closed (by rw [hm]; simpa using hwl)
      rw [hm] at hall
      have hall' : ∀ j, j < i → l.getD j false = true := fun j hj => hall j (by omega)
      obtain rfl : o = last := by rw [ho] at hlast; exact Option.some.inj hlast
      have hf2 := fin xs W hI.later (fun j hj => hx j (by omega) (hall' j hj)) (fun x hk => by rw [← hlaid l xs hf hall']; exact hkeep x hk) (fun j t hj ht => by rw [← hlaid l xs hf hall']; exact hget j t (hall' j hj) ht)
      rw [← hlaid l xs hf hall'] at hf2
      have hend : ∀ a' W', Q .normal a' W' → wpAnyIn F n P .any ops Q fuel (l.setIfInBounds i true) a' W' := fun a' W' hq => by
        refine wpAnyIn_done ?_ hq _
        rw [List.eq_nil_iff_forall_not_mem]
        intro k hk
        obtain ⟨h1, o', ho', _⟩ := mem_ready.1 hk
        have hklt : k < ops.size := (Array.getElem?_eq_some_iff.1 ho').1
        have hk' : k < (l.setIfInBounds i true).size := by rw [Array.size_setIfInBounds, hI.size]; exact hklt
        have h2 : (l.setIfInBounds i true).getD k false = true := by
          by_cases e : k = i
          · subst e; simp [Array.getD, hi']
          · exact getD_set_true (hall' k (by omega))
        generalize l.setIfInBounds i true = l' at *
        simp [Array.getD, hk'] at h1 h2
        rw [h2] at h1
        cases h1
      unfold wpOpIn
      rw [ho]
      simp only
      split
      · rename_i hw
        rw [if_pos hw] at hf2
        exact Oper.wpIn_mono (fun a' W' h => hend a' W' h) (opIn_of_op hF (plainAll_get hp ho) hf2)
      · rename_i hw
        rw [if_neg hw] at hf2
        exact ⟨fun f _ => hF.fn f, hend _ _ hf2⟩
    · have henv : EnvX ops a0 V i (laid ops a0 l xs ops.size) W xs := ⟨hkeep, fun j t hw ht => hget j t (hwl j hw) ht, fun j hj hw => hx j hj (hwl j hw)⟩
      have hs := step i o _ W xs (by omega) ho hI.later henv
      have hset : ∀ j, j ≠ i → (l.setIfInBounds i true).getD j false = l.getD j false := fun j hj => getD_set_ne false (fun e => hj e.symm)
      have next : ∀ v W', E i W W' → V i (upd xs i v) W' → InvX G ops a0 w V (l.setIfInBounds i true) ((laid ops a0 l xs ops.size).put o.dst v) W' := fun v W' hL hv => by
        refine ⟨by simpa using hI.size, fun p q hp hw => ?_, hG i _ _ hI.later hL, upd xs i v, ?_, fun j hj hl => ?_⟩
        · by_cases e : p = i
          · subst e
            exact getD_set_true (hwl q hw)
          · rw [hset p e] at hp
            exact getD_set_true (hI.closed p q hp hw)
        · rw [← hdst]
          exact laid_put hd v hi' hf _ (Nat.le_refl _) hlt
        · by_cases e : j = i
          · subst e; exact hv
          · rw [hset j e] at hl
            have hwf : waits ops j i = false := by
              cases hwj : waits ops j i
              · rfl
              · have := hI.closed j i hl hwj
                rw [hf] at this; cases this
            exact hV i j xs v W W' hj e hwf (hx j hj hl) hL
      have hcnt : (l.setIfInBounds i true).toList.count false ≤ fuel := by
        have hil : i < l.toList.length := by simpa using hi'
        have hlv : l.toList[i] = false := by simpa [Array.getD, hi'] using hf
        have := List.count_set (a := true) (b := false) (l := l.toList) (i := i) hil
        rw [Array.toList_setIfInBounds, this, hlv, if_pos (show (false == false) = true from rfl), if_neg (show ¬ (true == false) = true from by decide)]
        have hp : 0 < l.toList.count false := List.count_pos_iff.2 (by rw [← hlv]; exact List.getElem_mem hil)
        omega
      have hlf' : (l.setIfInBounds i true).getD m false = false := by rw [hset m (fun e => him e.symm)]; exact hlf
      unfold wpOpIn
      rw [ho]
      unfold StepOkE at hs
      simp only
      split
      · rename_i hw
        rw [if_pos hw] at hs
        refine Oper.wpIn_mono (fun a' W' h => ?_) (opIn_of_op hF (plainAll_get hp ho) hs)
        obtain ⟨v, rfl, hL, hv⟩ := h
        exact ih _ _ _ hcnt hlf' (next v W' hL hv)
      · rename_i hw
        rw [if_neg hw] at hs
        exact ⟨fun f _ => hF.fn f, ih _ _ _ hcnt hlf' (next undef W (hEr i W) hs)⟩
theorem wpIn_region_tailX {F : Fence} (hF : Wide F) {n : Nat} {id : Nat} {l : List Oper} {last : Oper} {a0 : Act} {w : World} (E : Nat → World → World → Prop) (G : World → World → Prop) (hEr : ∀ i W, E i W W) (hG : ∀ i W W', G w W → E i W W' → G w W') (hG0 : G w w.drew) (V : Nat → (Nat → Value) → World → Prop) (hV : ∀ i j xs v W W', j < (l ++ [last]).toArray.size → j ≠ i → waits (l ++ [last]).toArray j i = false → V j xs W → E i W W' → V j (upd xs i v) W') (hm : P.follows .mixedOrders = true) (hp : plainAll (l ++ [last]).toArray = true) (hd : dstsB (l ++ [last]).toArray = true) (hb : backB (l ++ [last]).toArray = true) (ha : ancB (l ++ [last]).toArray = true) (hin : dstIn (l ++ [last]).toArray a0.tmps.size = true)
    (step : AllFrom (fun i o => ∀ a W xs, G w W → EnvX (l ++ [last]).toArray a0 V i a W xs → StepOkE P (l ++ [last]).toArray Q (E i) o a W (fun v W' => V i (upd xs i v) W')) 0 l) (hg : last.guard = none)
    (fin : ∀ xs W, G w W → (∀ j, j < l.length → V j xs W) → (∀ x, keepsB (l ++ [last]).toArray l.length x = true → (putL l 0 xs a0).eval x = a0.eval x) → (∀ j t, j < l.length → dstOf (l ++ [last]).toArray j = some t → (putL l 0 xs a0).eval (.tmp t) = xs j) →
      last.wp P (putL l 0 xs a0) W (fun a' W' => Q .normal a' W') Q) : (Code.region id (l ++ [last]).toArray true).wpIn F n P Q a0 w := by
  have htake : (l ++ [last]).toArray.toList.take l.length = l := by simp
  refine wpIn_region_any hm (wpAnyIn_tailX hF hp hd hb ha hin (m := l.length) (last := last) (by simp) (by simp) E G hEr hG V hV (fun i o a W xs hi ho hL he => ?_) (fun xs W hL hx hk hg' => ?_) _ _ _ _ ?_ ?_ ⟨by simp, fun i j hi _ => ?_, hG0, fun _ => undef, ?_, fun j hj hl => ?_⟩)
  · have h := allFrom_get l 0 step i o (by
      rw [List.getElem?_toArray, List.getElem?_append_left hi] at ho
      exact ho)
    rw [Nat.zero_add] at h
    exact h a W xs hL he
  · rw [htake] at hk hg' ⊢
    rw [if_pos (by unfold Region.wanted; rw [hg])]
    exact fin xs W hL hx hk hg'
  · simp
  · simp [Array.getD]
  · exfalso
    simp [Array.getD] at hi
  · have : ∀ k, laid (l ++ [last]).toArray a0 (Array.replicate (l ++ [last]).toArray.size false) (fun _ => undef) k = a0 := fun k => by
      induction k with
      | zero => rfl
      | succ k ih => rw [laid, if_neg (by simp [Array.getD]), ih]
    exact (this _).symm
  · exfalso
    simp [Array.getD] at hl
theorem wpIn_region_lastX {F : Fence} (hF : Wide F) {n : Nat} {id : Nat} {o : Oper} {os : List Oper} {a0 : Act} {w : World} (E : Nat → World → World → Prop) (G : World → World → Prop) (hEr : ∀ i W, E i W W) (hG : ∀ i W W', G w W → E i W W' → G w W') (hG0 : G w w.drew) (V : Nat → (Nat → Value) → World → Prop) (hV : ∀ i j xs v W W', j < (o :: os).toArray.size → j ≠ i → waits (o :: os).toArray j i = false → V j xs W → E i W W' → V j (upd xs i v) W') (hm : P.follows .mixedOrders = true) (hp : plainAll (o :: os).toArray = true) (hd : dstsB (o :: os).toArray = true) (hb : backB (o :: os).toArray = true) (ha : ancB (o :: os).toArray = true) (hin : dstIn (o :: os).toArray a0.tmps.size = true) (hg : (lastL o os).guard = none)
    (step : AllFrom (fun i o' => ∀ a W xs, G w W → EnvX (o :: os).toArray a0 V i a W xs → StepOkE P (o :: os).toArray Q (E i) o' a W (fun v W' => V i (upd xs i v) W')) 0 (initL o os))
    (fin : ∀ xs W, G w W → (∀ j, j < (initL o os).length → V j xs W) → (∀ x, keepsB (o :: os).toArray (initL o os).length x = true → (putL (initL o os) 0 xs a0).eval x = a0.eval x) → (∀ j t, j < (initL o os).length → dstOf (o :: os).toArray j = some t → (putL (initL o os) 0 xs a0).eval (.tmp t) = xs j) →
      LastOk P (lastL o os) (putL (initL o os) 0 xs a0) W Q) : (Code.region id (o :: os).toArray true).wpIn F n P Q a0 w := by
  have e := init_last os o
  rw [← e] at hp hd hb ha hin hV step fin ⊢
  exact wpIn_region_tailX hF E G hEr hG hG0 V hV hm hp hd hb ha hin step hg (fun xs W hL hx hk hg' => (fin xs W hL hx hk hg').run)
end
end Go.Proofs.YthabgfghogdkcaaDoor
namespace Go.Proofs.YthabgfghogdkcaaDoor
open Go.RowKit
/-- One byte behind bytes of one's own: in its place, or in a row that is new. -/
theorem run_append_one {P : Program} (w : World) (base g n cap : Nat) (t ty U : TypeId) (ht : P.underlying t = some (.slice U)) (hi : ByteInfo P U) (l : List UInt8) (hn : l.length = n) (hown : Own U w base (.slice (some ⟨g, 0, none⟩) n cap) l) (hb : base ≤ w.heap.size)
    (b : Nat) (c : UInt8) (m : Nat) (hc : w.cell? ⟨b, 0, none⟩ = some (byteV c)) (hm : n ≤ 1000000000) :
    (n < cap ∧ (Builtin.append_ #[t, t] ty #[.slice (some ⟨g, 0, none⟩) n cap, .slice (some ⟨b, 0, none⟩) 1 m]).run P w = .ok (.slice (some ⟨g, 0, none⟩) (n + 1) cap) (w.setCell ⟨g, n, none⟩ (byteV c))) ∨
    (∃ v' w', (Builtin.append_ #[t, t] ty #[.slice (some ⟨g, 0, none⟩) n cap, .slice (some ⟨b, 0, none⟩) 1 m]).run P w = .ok v' w' ∧ Later w w' ∧ Own U w' base v' (l ++ [c])) := by
  obtain ⟨i, hi0, hz, hs, hby⟩ := info_parts hi
  subst hn
  have hnews : ∀ j u, [byteV c][j]? = some u → w.cell? ((⟨b, 0, none⟩ : Addr).add j) = some u := fun j u hu => by
    rcases j with _ | j
    · simp at hu; subst hu; exact hc
    · simp at hu
  rcases hown.2 with ⟨hv, _⟩ | ⟨g', cap', cur, hv, hbg, hg, hnc, hcm, hcs, htake⟩
  · cases hv
  · injection hv with h1 h2 h3
    injection h1 with h1
    injection h1 with h1
    subst h1 h3
    rw [Nat.mul_one] at hcs
    by_cases hroom : l.length + 1 ≤ cap
    · left
      refine ⟨by omega, ?_⟩
      have hr := run_append_room (P := P) w t ty U i ht hi0 g l.length cap cur hg ⟨b, 0, none⟩ 1 m [byteV c] (by rw [hs]; rfl) hnews (fun u hu => by simp at hu; subst hu; rfl) hroom (by rw [hs]; simp; omega)
      rw [hr, hs, Nat.mul_one]
      congr 1
      have hset : (cur.toList.take l.length ++ [byteV c] ++ cur.toList.drop (l.length + [byteV c].length)).toArray = cur.setIfInBounds l.length (byteV c) := by
        apply Array.ext'
        rw [Array.toList_setIfInBounds, List.set_eq_take_append_cons_drop, if_pos (by simp; omega)]
        simp
      rw [hset]
      have h5 := hg
      simp only [World.setRow, World.setCell]
      congr 1
      apply Array.ext_getElem?
      intro k
      simp only [Array.getElem?_modify]
      by_cases hk : g = k
      · subst hk
        simp [hg]
      · simp [hk]
    · right
      have holds : ∀ j u, (l.map byteV)[j]? = some u → w.cell? ((⟨g, 0, none⟩ : Addr).add j) = some u := World.ownsRow.cells hown (g := g) rfl
      have hr := run_append_grow (P := P) w t ty U i _ ht hi0 hz ⟨g, 0, none⟩ l.length cap (l.map byteV) (by rw [hs]; simp) holds ⟨b, 0, none⟩ 1 m [byteV c] (by rw [hs]; rfl) hnews (by omega) (by omega) (by
        rw [hby]
        have := nextslicecap_le (need := l.length + 1) (old := cap) (by omega)
        omega)
      refine ⟨_, _, hr, ((Later.refl w).drew).alloc _, by simp, .inr ⟨w.heap.size, _, _, by simp; rfl, hb, heap_alloc_new w.drew _, by simpa using grownCap_ge w (l.length + 1) cap U, grownCap_le_maxLen w _ _ _ (by unfold maxLen; omega), ?_, ?_⟩⟩
      · have hge := grownCap_ge w (l.length + 1) cap U
        rw [show (Value.int IntKind.u8 0).cells = #[.int .u8 0] from rfl, zeroCells_list]
        simp
        omega
      · rw [show (Value.int IntKind.u8 0).cells = #[.int .u8 0] from rfl, zeroCells_list, Nat.mul_one]
        simp only [List.append_toArray, List.map_append, List.length_append, List.map_cons, List.map_nil]
        exact List.take_left' (by simp)
/-- What the row of n bytes bears: a byte set behind them. -/
def Turn (B n : Nat) (U : TypeId) (c : UInt8) (W W' : World) : Prop := Later W W' ∨ ∃ r cur, B ≤ r ∧ W.heap[r]? = some (.cells cur U (0, 0)) ∧ n < cur.size ∧ 0 < n ∧ W' = W.setCell ⟨r, n, none⟩ (byteV c)
theorem Turn.below {B n : Nat} {U : TypeId} {c : UInt8} {w W W' : World} (h : Below B w W) (hw : B ≤ w.heap.size) (ht : Turn B n U c W W') : Below B w W' := by
  rcases ht with hL | ⟨r, cur, hr, _, _, _, rfl⟩
  · exact h.trans (hL.below.mono (by have := h.size; omega))
  · exact h.setCell hr _
theorem own_set {U : TypeId} {W : World} {base : Nat} {v : Value} {l : List UInt8} {r k : Nat} {cur : Array Value} {x : Value} (h : Own U W base v l) (hr : W.heap[r]? = some (.cells cur U (0, 0))) (hk : k < cur.size) (hkeep : v.ownBlock = some r → l.length ≤ k ∨ ∃ hi : k < l.length, x = byteV l[k]) : Own U (W.setCell ⟨r, k, none⟩ x) base v l := by
  obtain ⟨h1, h2⟩ := h
  refine ⟨h1, ?_⟩
  rcases h2 with ⟨rfl, hn⟩ | ⟨g, cap, cur', rfl, hb, hh, hn, hc, hs, ht⟩
  · exact .inl ⟨rfl, hn⟩
  · by_cases e : g = r
    · subst e
      rw [hh] at hr
      injection hr with hr
      injection hr with e1 _ _
      subst e1
      refine .inr ⟨g, cap, cur'.setIfInBounds k x, rfl, hb, heap_setCell_same W g k cur' U x hh, hn, hc, by simpa using hs, ?_⟩
      rw [Array.toList_setIfInBounds, Nat.mul_one, List.take_set]
      rw [Nat.mul_one] at ht
      rw [ht]
      rcases hkeep rfl with h3 | ⟨hi, rfl⟩
      · exact List.set_eq_of_length_le (by simpa using h3)
      · apply List.ext_getElem?
        intro j
        rw [List.getElem?_set]
        by_cases e : k = j
        · subst e; rw [if_pos rfl, if_pos (by simpa using hi)]; simp [hi]
        · rw [if_neg e]
    · exact .inr ⟨g, cap, cur', rfl, hb, (heap_setCell_other W _ g x e).trans hh, hn, hc, hs, ht⟩
theorem row_turn {B n : Nat} {U T : TypeId} {c : UInt8} {W W' : World} {g : Nat} {cs : Array Value} (h : Row W g T cs) (hT : T ≠ U ∨ cs.size ≤ n) (ht : Turn B n U c W W') : Row W' g T cs := by
  rcases ht with hL | ⟨r, cur, _, hr, hn, _, rfl⟩
  · exact h.later hL
  · refine h.far (fun e => ?_) _
    have e' : g = r := e
    subst e'
    have h' : W.heap[g]? = some (.cells cs T (0, 0)) := h
    rw [h'] at hr
    injection hr with hr
    injection hr with e1 e2 _
    rcases hT with h1 | h1
    · exact h1 e2
    · subst e1; omega
theorem own_turn {B n : Nat} {U : TypeId} {c : UInt8} {W W' : World} {base : Nat} {v : Value} {l : List UInt8} (h : Own U W base v l) (hn : l.length ≤ n ∨ ∃ hi : n < l.length, l[n] = c) (ht : Turn B n U c W W') : Own U W' base v l := by
  rcases ht with hL | ⟨r, cur, _, hr, hn', _, rfl⟩
  · exact h.later hL
  · refine own_set h hr hn' (fun _ => ?_)
    rcases hn with h1 | ⟨hi, rfl⟩
    · exact .inl h1
    · exact .inr ⟨hi, rfl⟩
end Go.Proofs.YthabgfghogdkcaaDoor
namespace Go.Proofs.YthabgfghogdkcaaDoor
open Go.RowKit
theorem run_append_void {P : Program} (w : World) (base g : Nat) (t ty U : TypeId) (ht : P.underlying t = some (.slice U)) (hi : ByteInfo P U) (hown : Own U w base (.slice (some ⟨g, 0, none⟩) 0 0) []) (hb : base ≤ w.heap.size)
    (A : Option Addr) (n c : Nat) (l : List UInt8) (hn : l.length = n) (hr : Rd w A l) (hm : n ≤ 1000000000) :
    ∃ g2 cap w', (Builtin.append_ #[t, t] ty #[.slice (some ⟨g, 0, none⟩) 0 0, .slice A n c]).run P w = .ok (.slice (some ⟨g2, 0, none⟩) n cap) w' ∧ Later w w' ∧ Own U w' base (.slice (some ⟨g2, 0, none⟩) n cap) l ∧ (n = 0 → cap = 0) := by
  obtain ⟨i, hi0, hz, hs, hby⟩ := info_parts hi
  subst hn
  rcases Nat.eq_zero_or_pos l.length with h0 | h0
  · have hl : l = [] := List.eq_nil_of_length_eq_zero h0
    subst hl
    refine ⟨g, 0, w, ?_, Later.refl w, hown, fun _ => rfl⟩
    rcases A with _ | ad
    · simp [Builtin.append_, run_underlying ht, sizeOf, typeInfo, hi0, hs, Builtin.lenOf, Builtin.firstCells, storeCells]
    · simp [Builtin.append_, run_underlying ht, sizeOf, typeInfo, hi0, hs, Builtin.lenOf, Builtin.firstCells, loadCells, loadCellsFrom, storeCells]
  · obtain ⟨b, o, rfl, hc⟩ := hr (by intro e; subst e; simp at h0)
    have hnews : ∀ j u, (l.map byteV)[j]? = some u → w.cell? ((⟨b, o, none⟩ : Addr).add j) = some u := fun j u hu => by
      have hj : j < l.length := by
        rcases Nat.lt_or_ge j l.length with h | h
        · exact h
        · rw [List.getElem?_eq_none (by simpa using h)] at hu; cases hu
      rw [List.getElem?_map, List.getElem?_eq_getElem hj, Option.map_some] at hu
      rw [show (⟨b, o, none⟩ : Addr).add j = ⟨b, o + j, none⟩ from by
        rcases Nat.eq_zero_or_pos j with rfl | hp
        · rfl
        · simp [Addr.add, Nat.ne_of_gt hp], hc j hj, hu]
    have h := run_append_grow (P := P) w t ty U i _ ht hi0 hz ⟨g, 0, none⟩ 0 0 [] (by simp) (fun j u hu => by simp at hu) ⟨b, o, none⟩ l.length c (l.map byteV) (by rw [hs]; simp) hnews (by omega) (by omega) (by
      rw [hby]
      have := nextslicecap_le (need := 0 + l.length) (old := 0) (by omega)
      omega)
    rw [Nat.zero_add] at h
    refine ⟨_, _, _, h, ((Later.refl w).drew).alloc _, ⟨by simp, .inr ⟨w.heap.size, _, _, by simp; rfl, hb, heap_alloc_new w.drew _, by simpa using grownCap_ge w l.length 0 U, grownCap_le_maxLen w _ _ _ (by unfold maxLen; omega), ?_, ?_⟩⟩, fun e => by omega⟩
    · have hge := grownCap_ge w l.length 0 U
      rw [show (Value.int IntKind.u8 0).cells = #[.int .u8 0] from rfl, zeroCells_list]
      simp
      omega
    · rw [show (Value.int IntKind.u8 0).cells = #[.int .u8 0] from rfl, zeroCells_list, Nat.mul_one]
      simp
theorem own_push {U : TypeId} {W : World} {base g n cap : Nat} {l : List UInt8} (c : UInt8) (hn : l.length = n) (h : Own U W base (.slice (some ⟨g, 0, none⟩) n cap) l) (hlt : n < cap) : Own U (W.setCell ⟨g, n, none⟩ (byteV c)) base (.slice (some ⟨g, 0, none⟩) (n + 1) cap) (l ++ [c]) ∧ ∃ cur, base ≤ g ∧ W.heap[g]? = some (.cells cur U (0, 0)) ∧ n < cur.size := by
  subst hn
  obtain ⟨h1, h2⟩ := h
  rcases h2 with ⟨e, _⟩ | ⟨g', cap', cur, e, hb, hh, hn, hc, hs, ht⟩
  · cases e
  · injection e with e1 e2 e3
    injection e1 with e1
    injection e1 with e1
    subst e1 e3
    rw [Nat.mul_one] at hs ht
    refine ⟨⟨by simp, .inr ⟨g, cap, cur.setIfInBounds l.length (byteV c), by simp, hb, heap_setCell_same W g _ cur U _ hh, by simp; omega, hc, by simpa using hs, ?_⟩⟩, cur, hb, hh, by omega⟩
    have e : cur.toList.set l.length (byteV c) = (cur.toList.take l.length ++ [byteV c]) ++ cur.toList.drop (l.length + 1) := by
      have hlt' : l.length < cur.toList.length := by
        have h3 : cur.toList.length = cur.size := Array.length_toList
        rw [h3, hs]; exact hlt
      rw [List.set_eq_take_append_cons_drop, if_pos hlt']
      simp
    rw [Nat.mul_one, Array.toList_setIfInBounds, e, ht, List.map_append]
    exact List.take_left' (by simp)
theorem row_turn1 {B n : Nat} {U T : TypeId} {c : UInt8} {W W' : World} {g : Nat} {x : Value} (h : Row W g T #[x]) (ht : Turn B n U c W W') : Row W' g T #[x] := by
  rcases ht with hL | ⟨r, cur, h1, h2, h3, h4, e⟩
  · exact h.later hL
  · exact row_turn (B := B) (n := n) (U := U) (c := c) h (.inr h4) (.inr ⟨r, cur, h1, h2, h3, h4, e⟩)
/-- A variable of type T beyond B is stored anew. -/
def Put (B : Nat) (T : TypeId) (k : Nat) (W W' : World) : Prop := ∃ g cs cs', B ≤ g ∧ Row W g T cs ∧ Row W' g T cs' ∧ cs'.size = k ∧ W.grownBy W' (some g)
theorem row_ne {W : World} {g g' : Nat} {T U : TypeId} {cs cs' : Array Value} (h : Row W g T cs) (h' : Row W g' U cs') (hT : T ≠ U) : g ≠ g' := fun e => by
  subst e
  have h1 : W.heap[g]? = some (.cells cs T (0, 0)) := h
  have h2 : W.heap[g]? = some (.cells cs' U (0, 0)) := h'
  rw [h1] at h2
  injection h2 with h2
  injection h2 with _ h2 _
  exact hT h2
theorem own_put {B k : Nat} {T U : TypeId} {W W' : World} {base : Nat} {v : Value} {l : List UInt8} (h : Own U W base v l) (hT : T ≠ U) (hp : Put B T k W W') : Own U W' base v l := by
  obtain ⟨g, cs, cs', _, hr, _, _, hg⟩ := hp
  refine ⟨h.1, ?_⟩
  rcases h.2 with ⟨rfl, hn⟩ | ⟨g2, cap, cur, rfl, hb, hh, hrest⟩
  · exact .inl ⟨rfl, hn⟩
  · have hne : g2 ≠ g := row_ne (cs := cur) hh hr (fun e => hT e.symm)
    exact .inr ⟨g2, cap, cur, rfl, hb, (hg.block g2 (Array.getElem?_eq_some_iff.1 hh).1 (fun e => hne (by injection e))).trans hh, hrest⟩
theorem row_put {B k : Nat} {T U : TypeId} {W W' : World} {g : Nat} {cs : Array Value} (h : Row W g U cs) (hT : T ≠ U) (hp : Put B T k W W') : Row W' g U cs := by
  obtain ⟨g2, cs2, cs', _, hr, _, _, hg⟩ := hp
  exact h.grown hg (fun e => row_ne h hr (fun e => hT e.symm) (by injection e))
/-- What may be said of values, and bears both. -/
structure PrX (T : World → World → Prop) where
  dep : List Nat
  R : (Nat → Value) → World → Prop
  cong : ∀ xs ys W, (∀ k ∈ dep, xs k = ys k) → R xs W → R ys W
  st : ∀ xs W W', R xs W → T W W' → R xs W'
def TP (B n : Nat) (U : TypeId) (c : UInt8) (T : TypeId) (k : Nat) (W W' : World) : Prop := Turn B n U c W W' ∨ Put B T k W W'
def PrX.eq {T : World → World → Prop} (j : Nat) (c : Value) : PrX T := ⟨[j], fun xs _ => xs j = c, fun xs ys _ h e => (h j (by simp)).symm.trans e, fun _ _ _ h _ => h⟩
def VofX {T : World → World → Prop} (Vs : List (PrX T)) (j : Nat) (xs : Nat → Value) (W : World) : Prop := match Vs[j]? with
  | some p => p.R xs W
  | none => True
def depsB {T : World → World → Prop} (ops : Array Oper) (Vs : List (PrX T)) : Bool := (List.range Vs.length).all fun j => match Vs[j]? with
  | some p => p.dep.all fun k => k == j || waits ops j k
  | none => true
theorem VofX.st {T : World → World → Prop} {ops : Array Oper} {Vs : List (PrX T)} (hd : depsB ops Vs = true) : ∀ (i j : Nat) xs v W W', j ≠ i → waits ops j i = false → VofX Vs j xs W → T W W' → VofX Vs j (upd xs i v) W' := fun i j xs v W W' hne hw h hL => by
  unfold VofX at *
  cases hj : Vs[j]? with
  | none => trivial
  | some p =>
    rw [hj] at h
    refine p.cong xs _ W' (fun k hk => ?_) (p.st xs W W' h hL)
    have hjl : j < Vs.length := (List.getElem?_eq_some_iff.1 hj).1
    unfold depsB at hd
    rw [List.all_eq_true] at hd
    have h1 := hd j (List.mem_range.2 hjl)
    rw [hj] at h1
    simp only [List.all_eq_true] at h1
    have h2 := h1 k hk
    have hki : k ≠ i := fun e => by
      subst e
      rw [hw] at h2
      simp at h2
      exact hne h2.symm
    rw [upd_ne xs v hki]
section
variable (B n : Nat) (U : TypeId) (c : UInt8) (T : TypeId) (hTU : T ≠ U) (k j : Nat)
def PrX.own (m : Nat) (l : List UInt8) (hl : l.length ≤ n ∨ ∃ hi : n < l.length, l[n] = c) : PrX (TP B n U c T k) := ⟨[j], fun xs W => ∃ g cap, xs j = .slice (some ⟨g, 0, none⟩) m cap ∧ (m = 0 → cap = 0) ∧ Own U W B (.slice (some ⟨g, 0, none⟩) m cap) l,
  fun xs ys _ h ⟨g, cap, e, h2⟩ => ⟨g, cap, (h j (by simp)).symm.trans e, h2⟩, fun _ _ _ ⟨g, cap, e, h0, h⟩ ht => ⟨g, cap, e, h0, by rcases ht with ht | ht; exact own_turn h hl ht; exact own_put h hTU ht⟩⟩
def PrX.pre (l : List UInt8) (hl : l.length ≤ n ∨ ∃ hi : n < l.length, l[n] = c) : PrX (TP B n U c T k) := ⟨[j], fun xs W => ∃ g cap, xs j = .slice (some ⟨g, 0, none⟩) n cap ∧ Own U W B (.slice (some ⟨g, 0, none⟩) (n + 1) cap) l,
  fun xs ys _ h ⟨g, cap, e, h2⟩ => ⟨g, cap, (h j (by simp)).symm.trans e, h2⟩, fun _ _ _ ⟨g, cap, e, h⟩ ht => ⟨g, cap, e, by rcases ht with ht | ht; exact own_turn h hl ht; exact own_put h hTU ht⟩⟩
def PrX.one : PrX (TP B n U c T k) := ⟨[j], fun xs W => ∃ g, xs j = .slice (some ⟨g, 0, none⟩) 1 1 ∧ Row W g U #[byteV c],
  fun xs ys _ h ⟨g, e, h2⟩ => ⟨g, (h j (by simp)).symm.trans e, h2⟩, fun _ _ _ ⟨g, e, h⟩ ht => ⟨g, e, by rcases ht with ht | ht; exact row_turn1 h ht; exact row_put h hTU ht⟩⟩
def PrX.var : PrX (TP B n U c T k) := ⟨[j], fun xs W => ∃ g cs, xs j = .pointer (some ⟨g, 0, none⟩) ∧ B ≤ g ∧ cs.size = k ∧ Row W g T cs,
  fun xs ys _ h h3 => by obtain ⟨g, cs, e, h2⟩ := h3; exact ⟨g, cs, (h j (by simp)).symm.trans e, h2⟩, fun _ _ _ h3 ht => by
    obtain ⟨g, cs, e, hB, hs, h⟩ := h3
    rcases ht with ht | ⟨g2, cs2, cs', hB2, hr, hr', hs', hg⟩
    · exact ⟨g, cs, e, hB, hs, row_turn h (.inl hTU) ht⟩
    · by_cases eg : g = g2
      · subst eg; exact ⟨g, cs', e, hB, hs', hr'⟩
      · exact ⟨g, cs, e, hB, hs, h.grown hg (fun e => eg (by injection e))⟩⟩
end
theorem run_void (W : World) : (Instr.buildSlice 40 0 #[]).run Tryd.prog W = .ok (.slice (some ⟨W.heap.size, 0, none⟩) 0 0) (W.alloc (.cells #[] 5)) := by kernel_rfl
theorem run_one (x : Int) (W : World) : (Instr.buildSlice 40 1 #[(0, .int .u8 x)]).run Tryd.prog W = .ok (.slice (some ⟨W.heap.size, 0, none⟩) 1 1) (W.alloc (.cells #[.int .u8 x] 5)) := by kernel_rfl
theorem op_append_run {P : Program} {Q : Exit → Act → World → Prop} {o : Oper} {a : Act} {w : World} {K : Act → World → Prop} {s x : Operand} {t : TypeId} {vs vx v' : Value} {w' : World}
    (ho : o.op = .call { callee := .builtin .append, args := #[s, x], argTypes := #[t, t] }) (hs : a.eval s = vs) (hx : a.eval x = vx) (hr : (Builtin.append_ #[t, t] o.type #[vs, vx]).run P w = .ok v' w') (h : K (a.put o.dst v') w') : o.wp P a w K Q := by
  unfold Oper.wp execOp
  simp only [ho, resolve, invoke, builtin, Sem.run_bind, Sem.run_pure, Result.andThen_ok, List.map_toArray, List.map_cons, List.map_nil, hs, hx, hr]
  exact h
end Go.Proofs.YthabgfghogdkcaaDoor
namespace Go.Proofs.YthabgfghogdkcaaDoor
open Go.RowKit
theorem RdsC.three {w : World} {A B C : Option Addr} {n c m d q e b : Nat} {l k p : List UInt8} (t : TypeId) (hb : w.heap.size = b) (h : Rd w A l) (hn : l.length = n) (hc : n ≤ c) (hcm : c ≤ 9223372036854775807) (h2 : Rd w B k) (hm : k.length = m) (hd : m ≤ d) (hdm : d ≤ 9223372036854775807)
    (h3 : Rd w C p) (hq : p.length = q) (he : q ≤ e) (hem : e ≤ 9223372036854775807) : RdsC (w.alloc (.cells #[.slice A n c, .slice B m d, .slice C q e] t)) (some ⟨b, 0, none⟩) [l, k, p] := fun _ => by
  subst hb hn hm hq
  refine ⟨_, _, rfl, fun i hi => ?_⟩
  rcases i with _ | _ | _ | i
  · exact ⟨A, c, ((Row.new w t _).cell 0).trans rfl, hc, hcm, h.alloc _⟩
  · exact ⟨B, d, ((Row.new w t _).cell 1).trans rfl, hd, hdm, h2.alloc _⟩
  · exact ⟨C, e, ((Row.new w t _).cell 2).trans rfl, he, hem, h3.alloc _⟩
  · exact absurd hi (by simp)
def Pr.rows3 (ls : List (List UInt8)) : Pr := ⟨fun v W => ∃ g, v = .slice (some ⟨g, 0, none⟩) 3 3 ∧ RdsC W (some ⟨g, 0, none⟩) ls, fun _ _ _ ⟨g, e, h⟩ hL => ⟨g, e, h.below hL⟩⟩
theorem eqg_str {x y : Operand} {a b : ByteArray} {W : World} : (eqGuard .eql 9 x y (.string a) (.string b)).run Tryd.prog W = .ok () W := by kernel_rfl
theorem eql_str {a : ByteArray} {W : World} : (binOp .eql 9 (.string a) (.string a)).run Tryd.prog W = .ok (.bool true) W := by
  go_simp
theorem idxSl (g n c : Nat) (hn : n ≤ 1000000) (W : World) : (Instr.indexAt 40 (.slice (some ⟨g, 0, none⟩) (n + 1) c) (.int .i64 (n : Int))).run Tryd.prog W = .ok (.pointer (some ⟨g, n, none⟩)) W := by
  have h1 : (n : Int) < ((n + 1 : Nat) : Int) := by omega
  have h2 : (0 : Int) ≤ (n : Int) := by omega
  go_simp
  intro h
  omega
theorem last_assign {P : Program} {Q : Exit → Act → World → Prop} {o : Oper} {a : Act} {W : World} {x : Operand} {vx : Value} (ho : o.op = .assign x) (hx : a.eval x = vx) (h : Q .normal (a.put o.dst vx) W) : LastOk P o a W Q :=
  ⟨op_assignK (K := fun a' W' => Q .normal a' W') ho (by rw [hx]; exact h)⟩
end Go.Proofs.YthabgfghogdkcaaDoor
