/- Joined texts: Rv4. -/
import Derived.Test.YtloiaaolnfimgaaGreatGo3
set_option linter.unusedVariables false
set_option linter.unusedSimpArgs false
set_option maxRecDepth 100000
set_option maxHeartbeats 32000000
namespace Go.Proofs.YtloiaaolnfimgaaGreat
open Go.RowKit
instance (l : List UInt8) (n : Nat) : Decidable (digsTo l n) := by unfold digsTo; exact inferInstance
instance (l : List UInt8) : Decidable (isHash l) := by unfold isHash; exact inferInstance
theorem parseB_len (l : List UInt8) : (parseB l).length <= 32 := by unfold parseB; split; (rw [hp_len]; omega); simp
theorem load8 {b o : Nat} {x : Int} {W : World} (hc : W.cell? ⟨b, o, none⟩ = some (.int .u8 x)) : (Instr.loadAt 5 (.pointer (some ⟨b, o, none⟩))).run Tryz.prog W = .ok (.int .u8 x) W := by
 go_simp
theorem take_flat (ls : List (List UInt8)) (k : Nat) : (ls.take k).flatten.length <= ls.flatten.length := by
 have := congrArg (fun x => (List.flatten x).length) (List.take_append_drop k ls)
 simp only [List.flatten_append, List.length_append] at this
 omega
theorem shaSum_any (A : Option Addr) (n cap : Nat) (ls : List (List UInt8)) (w : World) (hn : ls.length = n) (hm : n <= 1000000000) (hmax : ls.flatten.length <= 1000000000) (hr : RdsC w A ls) :
  Calls Tryz.prog 155 #[.slice A n cap] w fun e w' => e = .returned (.agg (hC (Sha.sum ls.flatten))) /\ Below w.heap.size w w' := by
 subst hn
 have hrowA := Row.new w 25 (hC [])
 have hbA := below_new w (.cells (hC []) 25)
 have HMAX := Lib.hid hmax
 have HR := Lib.hid hr
 clear hmax hr
 go_enter Tryz.func155, Tryz.ntmps155
 go_wp2_with (first
  | (with_reducible refine wpList_alloc rfl 25 rfl (allocH _) ?_)
  | (go_at_call 149; refine (new_any _).mono ?_; rintro e w1 ⟨g, rfl, hrun1, hg1, hb1⟩))
 have hb1' : Below w.heap.size w w1 := hbA.trans (hb1.mono hbA.size)
 have hgw : w.heap.size < g := by
  have : (w.alloc (.cells (hC []) 25)).heap.size = w.heap.size + 1 := World.size_alloc _ _
  omega
 have hrow1 : Row w1 w.heap.size 25 (hC []) := hrowA.belowAll hb1
 clear hb1 hbA hrowA hg1
 go_loopw [5, 9] (fun _ t wr => ∃ k : Nat, k <= ls.length /\ t = .int .i64 k /\ IsRun wr g (ls.take k).flatten /\ Row wr w.heap.size 25 (hC []) /\ Below w.heap.size w wr) (fun _ t _ => ls.length - (intOf t).toNat)
 case atStart => exact ⟨0, by omega, rfl, hrun1, hrow1, hb1'⟩
 case round =>
  obtain ⟨k, hk, rfl, hrun, hrow, hb⟩ := hrel
  clear hrun1 hrow1 hb1'
  have hsz0 := hb.size
  by_cases hlt : k < ls.length
  ·obtain ⟨b, o, Ai, ci, rfl, hc1, hci, hcm, hrd1⟩ := HR.out.at_ hlt
   have hc : wr.cell? ⟨b, o + k, none⟩ = some (.slice Ai ls[k].length ci) := (hb.cell (p := ⟨b, o + k, none⟩) (block_lt_of_cell hc1)).trans hc1
   have hrd := hrd1.below hb
   have hlt1 : ∀ ad, Ai = some ad -> ls[k] ≠ [] -> ad.block ≠ g := fun ad e hl => by
    obtain ⟨b', o', e', _⟩ := hrd1 hl
    rw [e] at e'
    injection e' with e'
    have := hrd1.lt (e.trans (congrArg some e')) hl
    rw [e']
    exact Nat.ne_of_lt (Nat.lt_trans this hgw)
   have hnext : (ls.take (k + 1)).flatten = (ls.take k).flatten ++ ls[k] := by
    rw [List.take_succ_eq_append_getElem hlt, List.flatten_append]; simp
   have hpl : (ls.take k).flatten.length + ls[k].length <= 1099511627776 := by
    have := take_flat ls (k + 1)
    have h2 := HMAX.out
    rw [hnext, List.length_append] at this
    omega
   have HN := Lib.hid hnext
   have HL := Lib.hid hlt1
   clear hnext hlt1 hc1 hrd1
   generalize (ls.take k).flatten = z at *
   generalize ls[k] = l at *
   go_wp2_with (first | (go_at_call 151; refine (write_any g z Ai _ ci l _ hrun rfl hci hcm hrd HL.out hpl).mono ?_; rintro e w2 ⟨rfl, hrun2, hg2⟩))
   have hrow2 := hrow.grown hg2 (by intro e; injection e with e; omega)
   have hb2 := hb.grown hg2 hb.size (fun j e => by cases e; omega)
   go_roundw
   case rel => exact ⟨k + 1, by omega, by go_num, by rw [HN.out]; exact hrun2, hrow2, hb2⟩
   case measure => simp [intOf]; omega
  ·obtain rfl : k = ls.length := by omega
   rw [List.take_length] at hrun
   have hL := HMAX.out
   have hslen : (Sha.sum ls.flatten).length = 32 := Sha.sum_len _
   obtain ⟨z, hz⟩ : ∃ z, ls.flatten = z := ⟨_, rfl⟩
   rw [hz] at hrun hL hslen
   have HZ := Lib.hid hz
   clear hz
   go_wp2_with (first
    | (go_at_call 154; refine (runSum_any g z _ hrun hL).mono ?_; rintro e w2 ⟨rfl, hb2⟩; have hrow2 := hrow.belowAll hb2; obtain ⟨w9, hst, hr9, hg9⟩ := storeH (a := []) (b := Sha.sum z) (by simp) (by omega) hrow2)
    | (refine wpList_store rfl 25 (.tmp 2) (.tmp 18) rfl (.pointer (some ⟨w.heap.size, 0, none⟩)) (.agg (hC (Sha.sum z))) rfl rfl hst ?_))
   have hb2' : Below w.heap.size w w2 := hb.trans (hb2.mono hb.size)
   refine bodyPost_ret (results_cell_row rfl _ _ w.heap.size 25 (hC (Sha.sum z)) (0, 0) _ rfl hr9 Tryz.underlying25 rfl (by rw [hC_size _ (by omega)]; exact infoH)) rfl ⟨by rw [HZ.out], hb2'.grown hg9 hb2'.size (fun j e => by cases e; exact Nat.le_refl _)⟩
theorem xor3_ret (x y z : BitVec 32) : bits .xor .u32 (bits .xor .u32 (x.toNat : Int) (y.toNat : Int)) (z.toNat : Int) = ((x ^^^ y ^^^ z).toNat : Int) := by rw [bv_xor, bv_xor]
theorem refR_any (x : BitVec 32) (p q n : Nat) (hp1 : 1 <= p) (hp2 : p <= 31) (hq1 : 1 <= q) (hq2 : q <= 31) (hn : n <= 31) (w : World) :
  Calls Tryz.prog 157 #[.int .u32 (x.toNat : Int), .int .i64 (p : Int), .int .i64 (q : Int), .int .i64 (n : Int)] w fun e w' => e = .returned (.int .u32 ((Sha.ror x p ^^^ Sha.ror x q ^^^ (x >>> n)).toNat : Int)) /\ w = w' := by
 have hx := x.isLt
 go_enter Tryz.func157, Tryz.ntmps157
 go_wp2_with fail
 refine (rotl_down x p hp1 hp2 _).mono ?_
 rintro e w1 ⟨rfl, rfl⟩
 go_wp2_with fail
 refine (rotl_down x q hq1 hq2 _).mono ?_
 rintro e w1 ⟨rfl, rfl⟩
 go_wp2_with fail
 go_ret
 exact ⟨ret_u32 (by rw [bv_shr]; exact xor3_ret _ _ _), rfl⟩
theorem refS_any (x : BitVec 32) (p q n : Nat) (hp1 : 1 <= p) (hp2 : p <= 31) (hq1 : 1 <= q) (hq2 : q <= 31) (hn1 : 1 <= n) (hn : n <= 31) (w : World) :
  Calls Tryz.prog 159 #[.int .u32 (x.toNat : Int), .int .i64 (p : Int), .int .i64 (q : Int), .int .i64 (n : Int)] w fun e w' => e = .returned (.int .u32 ((Sha.ror x p ^^^ Sha.ror x q ^^^ Sha.ror x n).toNat : Int)) /\ w = w' := by
 have hx := x.isLt
 go_enter Tryz.func159, Tryz.ntmps159
 go_wp2_with fail
 refine (rotl_down x p hp1 hp2 _).mono ?_
 rintro e w1 ⟨rfl, rfl⟩
 go_wp2_with fail
 refine (rotl_down x q hq1 hq2 _).mono ?_
 rintro e w1 ⟨rfl, rfl⟩
 go_wp2_with fail
 refine (rotl_down x n hn1 hn _).mono ?_
 rintro e w1 ⟨rfl, rfl⟩
 go_wp2_with fail
 go_ret
 exact ⟨ret_u32 (xor3_ret _ _ _), rfl⟩
theorem bitI (x : BitVec 32) (k : Nat) : ((x.toNat : Int) / 2 ^ k).tmod 2 = ((x.getLsbD k).toNat : Int) := by
 have h2 : (x.getLsbD k).toNat = x.toNat / 2 ^ k % 2 := by
  show (x.toNat.testBit k).toNat = _
  rw [Nat.testBit_eq_decide_div_mod_eq]
  by_cases h : x.toNat / 2 ^ k % 2 = 1
  ·rw [decide_eq_true h, h]; rfl
  ·rw [decide_eq_false h]; simp; omega
 have e : (x.toNat : Int) / 2 ^ k = ((x.toNat / 2 ^ k : Nat) : Int) := by rw [Int.natCast_ediv, Int.natCast_pow]; rfl
 rw [h2, e]
 generalize x.toNat / 2 ^ k = q
 rw [Int.tmod_eq_emod_of_nonneg (by omega)]
 omega
theorem up_bit (x : BitVec 32) (k : Nat) (h : k < 32) (b : Int) (hb : ((x.getLsbD k).toNat : Int) = b) : (((x.toNat % 2 ^ k : Nat) : Int) + b * 2 ^ k % 4294967296) % 4294967296 = ((x.toNat % 2 ^ (k + 1) : Nat) : Int) := by
 subst hb
 have hl := Sha.low_succ x k
 have hx := x.isLt
 have h3 : x.toNat % 2 ^ (k + 1) <= x.toNat := Nat.mod_le _ _
 have e : ((x.getLsbD k).toNat : Int) * 2 ^ k = (((x.getLsbD k).toNat * 2 ^ k : Nat) : Int) := by rw [Int.natCast_mul, Int.natCast_pow]; rfl
 rw [e]
 generalize (x.getLsbD k).toNat * 2 ^ k = B at *
 generalize x.toNat % 2 ^ k = M at *
 generalize x.toNat % 2 ^ (k + 1) = N at *
 omega
theorem up_yes (x : BitVec 32) (k : Nat) (h : k < 32) (hb : x.getLsbD k = true) : (((x.toNat : Int) % 2 ^ k) + 2 ^ k % 4294967296) % 4294967296 = ((x.toNat % 2 ^ (k + 1) : Nat) : Int) := by
 have := up_bit x k h 1 (by rw [hb]; rfl)
 rw [Int.one_mul] at this
 rw [<- this, Int.natCast_emod, Int.natCast_pow]
 rfl
theorem up_no (x : BitVec 32) (k : Nat) (hb : x.getLsbD k = false) : x.toNat % 2 ^ k = x.toNat % 2 ^ (k + 1) := by
 rw [Sha.low_succ x k, hb]
 simp
theorem maj_yes (a b c : BitVec 32) (k : Nat) (h : 2 <= (((a.toNat : Int) / 2 ^ k).tmod 2 + ((b.toNat : Int) / 2 ^ k).tmod 2 + ((c.toNat : Int) / 2 ^ k).tmod 2) % 4294967296) : (Sha.maj a b c).getLsbD k = true := by
 rw [bitI, bitI, bitI] at h
 rw [Sha.maj_bit]
 simp
 omega
theorem maj_no (a b c : BitVec 32) (k : Nat) (h : (((a.toNat : Int) / 2 ^ k).tmod 2 + ((b.toNat : Int) / 2 ^ k).tmod 2 + ((c.toNat : Int) / 2 ^ k).tmod 2) % 4294967296 < 2) : (Sha.maj a b c).getLsbD k = false := by
 rw [bitI, bitI, bitI] at h
 rw [Sha.maj_bit]
 have := (a.getLsbD k).toNat_lt
 have := (b.getLsbD k).toNat_lt
 have := (c.getLsbD k).toNat_lt
 simp
 omega
theorem most_any (a b c : BitVec 32) (w : World) :
  Calls Tryz.prog 161 #[.int .u32 (a.toNat : Int), .int .u32 (b.toNat : Int), .int .u32 (c.toNat : Int)] w fun e w' => e = .returned (.int .u32 ((Sha.maj a b c).toNat : Int)) /\ w = w' := by
 have ha := a.isLt
 have hb := b.isLt
 have hc := c.isLt
 go_enter Tryz.func161, Tryz.ntmps161
 go_wp2
 go_loop [7, 8] (fun o t => ∃ k : Nat, k <= 32 /\ t = .int .u64 k /\ o = .int .u32 (((Sha.maj a b c).toNat % 2 ^ k : Nat) : Int)) (fun _ t => 32 - (intOf t).toNat)
 case atStart => exact ⟨0, by omega, rfl, by rw [Nat.pow_zero, Nat.mod_one]; rfl⟩
 case round =>
  obtain ⟨k, hk, rfl, rfl⟩ := hrel
  by_cases hlt : k < 32
  ·go_wp2
   ·have h : 2 <= (((a.toNat : Int) / 2 ^ k).tmod 2 + ((b.toNat : Int) / 2 ^ k).tmod 2 + ((c.toNat : Int) / 2 ^ k).tmod 2) % 4294967296 := by assumption
    go_round
    case rel => exact ⟨k + 1, by omega, by go_num, by rw [up_yes _ k hlt (maj_yes a b c k h)]⟩
    case measure => simp [intOf]; omega
   ·have h : (((a.toNat : Int) / 2 ^ k).tmod 2 + ((b.toNat : Int) / 2 ^ k).tmod 2 + ((c.toNat : Int) / 2 ^ k).tmod 2) % 4294967296 < 2 := by assumption
    go_round
    case rel => exact ⟨k + 1, by omega, by go_num, by rw [up_no _ k (maj_no a b c k h)]⟩
    case measure => simp [intOf]; omega
  ·obtain rfl : k = 32 := by omega
   rw [Sha.low_all]
   go_wp2
   go_ret
   exact ⟨rfl, rfl⟩
theorem picked_any (a b c : BitVec 32) (w : World) :
  Calls Tryz.prog 160 #[.int .u32 (a.toNat : Int), .int .u32 (b.toNat : Int), .int .u32 (c.toNat : Int)] w fun e w' => e = .returned (.int .u32 ((Sha.ch a b c).toNat : Int)) /\ w = w' := by
 have ha := a.isLt
 have hb := b.isLt
 have hc := c.isLt
 go_enter Tryz.func160, Tryz.ntmps160
 go_wp2
 go_loop [7, 8] (fun o t => ∃ k : Nat, k <= 32 /\ t = .int .u64 k /\ o = .int .u32 (((Sha.ch a b c).toNat % 2 ^ k : Nat) : Int)) (fun _ t => 32 - (intOf t).toNat)
 case atStart => exact ⟨0, by omega, rfl, by rw [Nat.pow_zero, Nat.mod_one]; rfl⟩
 case round =>
  obtain ⟨k, hk, rfl, rfl⟩ := hrel
  by_cases hlt : k < 32
  ·go_wp2
   ·have h : ((a.toNat : Int) / 2 ^ k).tmod 2 == 1 := by assumption
    rw [bitI] at h
    have hb : ((b.toNat : Int) / 2 ^ k).tmod 2 = (((Sha.ch a b c).getLsbD k).toNat : Int) := by
     rw [bitI, Sha.ch_bit, if_pos]
     cases he : a.getLsbD k
     ·rw [he] at h; cases h
     ·rfl
    go_round
    case rel => exact ⟨k + 1, by omega, by go_num, by rw [hb, <- up_bit _ k hlt _ rfl, Int.natCast_emod, Int.natCast_pow]; rfl⟩
    case measure => simp [intOf]; omega
   ·have h : (((a.toNat : Int) / 2 ^ k).tmod 2 == 1) = false := by assumption
    rw [bitI] at h
    have hb : ((c.toNat : Int) / 2 ^ k).tmod 2 = (((Sha.ch a b c).getLsbD k).toNat : Int) := by
     rw [bitI, Sha.ch_bit, if_neg]
     cases he : a.getLsbD k
     ·simp
     ·rw [he] at h; cases h
    go_round
    case rel => exact ⟨k + 1, by omega, by go_num, by rw [hb, <- up_bit _ k hlt _ rfl, Int.natCast_emod, Int.natCast_pow]; rfl⟩
    case measure => simp [intOf]; omega
  ·obtain rfl : k = 32 := by omega
   rw [Sha.low_all]
   go_wp2
   go_ret
   exact ⟨rfl, rfl⟩
theorem refK_any (w : World) : Calls Tryz.prog 158 #[] w fun e w' => e = .returned (.agg kCells) /\ Below w.heap.size w w' := by
 go_enter Tryz.func158, Tryz.ntmps158
 go_wp2_with (first
  | (with_reducible refine wpList_alloc rfl 231 rfl (alloc64 _) ?_)
  | (refine wpList_buildC rfl 231 _ rfl kParts (by kernel_rfl) (buildK _) ?_)
  | (refine wpList_store rfl 231 (.tmp 0) (.tmp 1) rfl (.pointer (some ⟨w.heap.size, 0, none⟩)) (.agg kCells) rfl rfl (storeK _) ?_))
 refine bodyPost_ret (results_cell_row rfl _ _ w.heap.size 231 kCells (0, 0) _ rfl (Row.new w 231 kCells) Tryz.underlying231 rfl (by rw [kCells_size]; exact info64)) rfl ⟨rfl, below_new w _⟩
theorem refFirst_any (w : World) : Calls Tryz.prog 128 #[] w fun e w' => e = .returned (.agg (stC Sha.first 0)) /\ w.alloc (.cells (stC Sha.first 0) 195) = w' := by
 go_enter Tryz.func128, Tryz.ntmps128
 go_wp2_with (first
  | (with_reducible refine wpList_alloc rfl 195 rfl (alloc8 _) ?_)
  | (refine wpList_buildC rfl 195 _ rfl firstParts (by kernel_rfl) (buildFirst _) ?_)
  | (refine wpList_store rfl 195 (.tmp 0) (.tmp 1) rfl (.pointer (some ⟨w.heap.size, 0, none⟩)) (.agg (stC Sha.first 0)) rfl rfl (storeS Sha.first _) ?_))
 refine bodyPost_ret (results_cell_row rfl _ _ w.heap.size 195 (stC Sha.first 0) (0, 0) _ rfl (Row.new w 195 (stC Sha.first 0)) Tryz.underlying195 rfl (by rw [stC_size]; exact info8)) rfl ⟨rfl, rfl⟩
theorem be_step (x : BitVec 32) (c : UInt8) (h : x.toNat < 16777216) : ((x <<< 8) ||| Sha.zx c).toNat = x.toNat * 256 + c.toNat := by
 have hc := c.toNat_lt
 have hz : (Sha.zx c).toNat = c.toNat := by have := zxv c; omega
 have h2 : x.toNat <<< 8 < 2 ^ 32 := by rw [Nat.shiftLeft_eq]; omega
 rw [BitVec.toNat_or, BitVec.toNat_shiftLeft, hz, Nat.mod_eq_of_lt h2, <- Nat.shiftLeft_add_eq_or_of_lt (by omega), Nat.shiftLeft_eq]
theorem be_four (a b c d : UInt8) : (Sha.be [a, b, c, d]).toNat = a.toNat * 16777216 + b.toNat * 65536 + c.toNat * 256 + d.toNat := by
 have ha := a.toNat_lt
 have hb := b.toNat_lt
 have hc := c.toNat_lt
 have hd := d.toNat_lt
 have e1 := be_step 0#32 a (by decide)
 have e2 := be_step ((0#32 <<< 8) ||| Sha.zx a) b (by rw [e1]; simp; omega)
 have e3 := be_step ((((0#32 <<< 8) ||| Sha.zx a) <<< 8) ||| Sha.zx b) c (by rw [e2, e1]; simp; omega)
 have e4 := be_step ((((((0#32 <<< 8) ||| Sha.zx a) <<< 8) ||| Sha.zx b) <<< 8) ||| Sha.zx c) d (by rw [e3, e2, e1]; simp; omega)
 have e : Sha.be [a, b, c, d] = ((((((((0#32 <<< 8) ||| Sha.zx a) <<< 8) ||| Sha.zx b) <<< 8) ||| Sha.zx c) <<< 8) ||| Sha.zx d) := rfl
 rw [e, e4, e3, e2, e1]
 simp
 omega
theorem wd_four (l : List UInt8) (t : Nat) (h : 4 * t + 4 <= l.length) : (Sha.wd l t).toNat = (l[4 * t]'(by omega)).toNat * 16777216 + (l[4 * t + 1]'(by omega)).toNat * 65536 + (l[4 * t + 2]'(by omega)).toNat * 256 + (l[4 * t + 3]'(by omega)).toNat := by
 have e : (l.drop (4 * t)).take 4 = [l[4 * t]'(by omega), l[4 * t + 1]'(by omega), l[4 * t + 2]'(by omega), l[4 * t + 3]'(by omega)] := by
  rw [List.drop_eq_getElem_cons (by omega), List.drop_eq_getElem_cons (by omega), List.drop_eq_getElem_cons (by omega), List.drop_eq_getElem_cons (by omega)]
  rfl
 unfold Sha.wd
 rw [e, be_four]
theorem bytes_get (l : List UInt8) (i : Nat) (h : i < l.length) : (l.map byteV).toArray[i]? = some (byteV l[i]) := by simp [h]
theorem word_sum (q0 q1 q2 q3 : UInt8) (x : BitVec 32) (h : x.toNat = q0.toNat * 16777216 + q1.toNat * 65536 + q2.toNat * 256 + q3.toNat) :
  IntKind.u32.wrap (IntKind.u32.wrap (IntKind.u32.wrap (IntKind.u32.wrap (IntKind.u32.wrap (q0.toNat : Int) * 16777216) + IntKind.u32.wrap (IntKind.u32.wrap (q1.toNat : Int) * 65536)) + IntKind.u32.wrap (IntKind.u32.wrap (q2.toNat : Int) * 256)) + IntKind.u32.wrap (q3.toNat : Int)) = (x.toNat : Int) := by
 have b0 := q0.toNat_lt
 have b1 := q1.toNat_lt
 have b2 := q2.toNat_lt
 have b3 := q3.toNat_lt
 simp only [IntKind.wrap_u32']
 omega
theorem refR_s1 (x : BitVec 32) (w : World) : Calls Tryz.prog 157 #[.int .u32 (x.toNat : Int), .int .i64 17, .int .i64 19, .int .i64 10] w fun e w' => e = .returned (.int .u32 ((Sha.s1 x).toNat : Int)) /\ w' = w :=
 (refR_any x 17 19 10 (by decide) (by decide) (by decide) (by decide) (by decide) w).mono fun e w' ⟨h1, h2⟩ => ⟨h1, h2.symm⟩
theorem refR_s0 (x : BitVec 32) (w : World) : Calls Tryz.prog 157 #[.int .u32 (x.toNat : Int), .int .i64 7, .int .i64 18, .int .i64 3] w fun e w' => e = .returned (.int .u32 ((Sha.s0 x).toNat : Int)) /\ w' = w :=
 (refR_any x 7 18 3 (by decide) (by decide) (by decide) (by decide) (by decide) w).mono fun e w' ⟨h1, h2⟩ => ⟨h1, h2.symm⟩
theorem refS_S1 (x : BitVec 32) (w : World) : Calls Tryz.prog 159 #[.int .u32 (x.toNat : Int), .int .i64 6, .int .i64 11, .int .i64 25] w fun e w' => e = .returned (.int .u32 ((Sha.S1 x).toNat : Int)) /\ w' = w :=
 (refS_any x 6 11 25 (by decide) (by decide) (by decide) (by decide) (by decide) (by decide) w).mono fun e w' ⟨h1, h2⟩ => ⟨h1, h2.symm⟩
theorem refS_S0 (x : BitVec 32) (w : World) : Calls Tryz.prog 159 #[.int .u32 (x.toNat : Int), .int .i64 2, .int .i64 13, .int .i64 22] w fun e w' => e = .returned (.int .u32 ((Sha.S0 x).toNat : Int)) /\ w' = w :=
 (refS_any x 2 13 22 (by decide) (by decide) (by decide) (by decide) (by decide) (by decide) w).mono fun e w' ⟨h1, h2⟩ => ⟨h1, h2.symm⟩
theorem most_q (a b c : BitVec 32) (w : World) : Calls Tryz.prog 161 #[.int .u32 (a.toNat : Int), .int .u32 (b.toNat : Int), .int .u32 (c.toNat : Int)] w fun e w' => e = .returned (.int .u32 ((Sha.maj a b c).toNat : Int)) /\ w' = w :=
 (most_any a b c w).mono fun e w' ⟨h1, h2⟩ => ⟨h1, h2.symm⟩
theorem picked_q (a b c : BitVec 32) (w : World) : Calls Tryz.prog 160 #[.int .u32 (a.toNat : Int), .int .u32 (b.toNat : Int), .int .u32 (c.toNat : Int)] w fun e w' => e = .returned (.int .u32 ((Sha.ch a b c).toNat : Int)) /\ w' = w :=
 (picked_any a b c w).mono fun e w' ⟨h1, h2⟩ => ⟨h1, h2.symm⟩
theorem still_q {P : Program} {f : FuncId} {args : Array Value} {v : Value} (c : ∀ W : World, Calls P f args W fun e w' => e = .returned v /\ w' = W) {w : World} {a n : Nat} :
  Calls P f args (w.drewN (a + n)) fun e w'' => e = .returned v /\ ∃ m, w'' = w.drewN (a + m) := (c _).mono fun _ _ h => ⟨h.1, n, h.2⟩
def wordsC (l : List UInt8) (k : Nat) : Array Value := fillTo 64 (.int .u32 0) (fun j => wordV (Sha.M (Sha.wd l) j)) k
theorem infoB64 : (Tryz.prog.info? 198).map (·.size) = some 64 := by kernel_rfl
theorem refPress_any (x : Sha.St) (l : List UInt8) (w : World) (hl : l.length = 64) :
  Calls Tryz.prog 130 #[.agg (stC x 0), .agg (l.map byteV).toArray] w fun e w' => e = .returned (.agg (stC (Sha.blk x l) 0)) /\ Below w.heap.size w w' := by
 have hb1 := run_box_row (P := Tryz.prog) w 195 (stC x 0) (by rw [stC_size]; exact info8)
 have hb2 := fun w : World => run_box_row (P := Tryz.prog) w 198 (l.map byteV).toArray (by rw [List.size_toArray, List.length_map, hl]; exact infoB64)
 go_enter Tryz.func130, Tryz.ntmps130
 go_wp2_with (first
  | (with_reducible refine wpList_box rfl 195 (.tmp 0) rfl (.agg (stC x 0)) rfl hb1 ?_)
  | (with_reducible refine wpList_box rfl 198 (.tmp 1) rfl (.agg (l.map byteV).toArray) rfl (hb2 _) ?_)
  | (with_reducible refine wpList_alloc rfl 195 rfl (alloc8 _) ?_)
  | (with_reducible refine wpList_alloc rfl 231 rfl (alloc64 _) ?_))
 obtain ⟨g, hg⟩ : ∃ y, y = w.heap.size := ⟨_, rfl⟩
 rw [<- hg]
 have hr2 : Row ((((w.alloc (.cells (stC x 0) 195)).alloc (.cells (l.map byteV).toArray 198)).alloc (.cells z8 195)).alloc (.cells z64 231)) g 195 (stC x 0) := (((Row.newAt hg.symm).alloc _).alloc _).alloc _
 have hr3 : Row ((((w.alloc (.cells (stC x 0) 195)).alloc (.cells (l.map byteV).toArray 198)).alloc (.cells z8 195)).alloc (.cells z64 231)) (g + 1) 198 (l.map byteV).toArray := ((Row.newAt (by simp only [World.size_alloc]; omega)).alloc _).alloc _
 have hr4 : Row ((((w.alloc (.cells (stC x 0) 195)).alloc (.cells (l.map byteV).toArray 198)).alloc (.cells z8 195)).alloc (.cells z64 231)) (g + 1 + 1) 195 z8 := (Row.newAt (by simp only [World.size_alloc]; omega)).alloc _
 have hr5 : Row ((((w.alloc (.cells (stC x 0) 195)).alloc (.cells (l.map byteV).toArray 198)).alloc (.cells z8 195)).alloc (.cells z64 231)) (g + 1 + 1 + 1) 231 (wordsC l 0) := by
  unfold wordsC
  rw [fillTo_zero]
  exact Row.newAt (by simp only [World.size_alloc]; omega)
 have hbl : Below w.heap.size w ((((w.alloc (.cells (stC x 0) 195)).alloc (.cells (l.map byteV).toArray 198)).alloc (.cells z8 195)).alloc (.cells z64 231)) := (((Later.refl w).alloc _).alloc _).alloc _ |>.alloc _
 have HG := Lib.hid hg
 have HL := Lib.hid hl
 clear hg hl hb1 hb2
 generalize (((w.alloc (.cells (stC x 0) 195)).alloc (.cells (l.map byteV).toArray 198)).alloc (.cells z8 195)).alloc (.cells z64 231) = w1 at *
 go_loopw [6] (fun t wr => ∃ k : Nat, k <= 64 /\ t = .int .i64 k /\ Row wr g 195 (stC x 0) /\ Row wr (g + 1) 198 (l.map byteV).toArray /\ Row wr (g + 1 + 1) 195 z8 /\ Row wr (g + 1 + 1 + 1) 231 (wordsC l k) /\ Below w.heap.size w wr) (fun t _ => 64 - (intOf t).toNat)
 case atStart => exact ⟨0, by omega, rfl, hr2, hr3, hr4, hr5, hbl⟩
 case round =>
  obtain ⟨k, hk, rfl, h2, h3, h4, h5, hb⟩ := hrel
  clear hr2 hr3 hr4 hr5 hbl
  by_cases hlt : k < 64
  ·have hst : (wordsC l k).setIfInBounds k (wordV (Sha.M (Sha.wd l) k)) = wordsC l (k + 1) := fillTo_set _ _ _ _ hlt
   have hkc : wr.cell? ⟨g + 1 + 1 + 1, k, none⟩ = some (.int .u32 0) := (h5.cell k).trans ((fillTo_get _ _ _ _ _ hlt).trans (by rw [if_neg (by omega)]))
   have hkf := h5.frozen k
   have HST := Lib.hid hst
   clear hst
   by_cases h16 : k < 16
   ·have hL4 : 4 * k + 4 <= l.length := by rw [HL.out]; omega
    have c0 : wr.cell? ⟨g + 1, 4 * k, none⟩ = some (byteV (l[4 * k]'(by omega))) := (h3.cell _).trans (bytes_get l _ (by omega))
    have c1 : wr.cell? ⟨g + 1, 4 * k + 1, none⟩ = some (byteV (l[4 * k + 1]'(by omega))) := (h3.cell _).trans (bytes_get l _ (by omega))
    have c2 : wr.cell? ⟨g + 1, 4 * k + 2, none⟩ = some (byteV (l[4 * k + 2]'(by omega))) := (h3.cell _).trans (bytes_get l _ (by omega))
    have c3 : wr.cell? ⟨g + 1, 4 * k + 3, none⟩ = some (byteV (l[4 * k + 3]'(by omega))) := (h3.cell _).trans (bytes_get l _ (by omega))
    have hM := Sha.M_lt (Sha.wd l) h16
    have hw4 := wd_four l k hL4
    have HM := Lib.hid hM
    have HW4 := Lib.hid hw4
    clear hM hw4
    generalize l[4 * k]'(by omega) = q0 at *
    generalize l[4 * k + 1]'(by omega) = q1 at *
    generalize l[4 * k + 2]'(by omega) = q2 at *
    generalize l[4 * k + 3]'(by omega) = q3 at *
    have b0 := q0.toNat_lt
    have b1 := q1.toNat_lt
    have b2 := q2.toNat_lt
    have b3 := q3.toNat_lt
    clear hL4
    have m0 : IntKind.i64.wrap (4 * (k : Int)) = 4 * (k : Int) := IntWalk.i64_in _ (by omega)
    have m1 : IntKind.i64.wrap (4 * (k : Int) + 1) = 4 * (k : Int) + 1 := IntWalk.i64_in _ (by omega)
    have m2 : IntKind.i64.wrap (4 * (k : Int) + 2) = 4 * (k : Int) + 2 := IntWalk.i64_in _ (by omega)
    have m3 : IntKind.i64.wrap (4 * (k : Int) + 3) = 4 * (k : Int) + 3 := IntWalk.i64_in _ (by omega)
    have n0 : (4 * (k : Int)).toNat = 4 * k := by omega
    have n1 : (4 * (k : Int) + 1).toNat = 4 * k + 1 := by omega
    have n2 : (4 * (k : Int) + 2).toNat = 4 * k + 2 := by omega
    have n3 : (4 * (k : Int) + 3).toNat = 4 * k + 3 := by omega
    have u0 : 4 * (k : Int) < 64 := by omega
    have u1 : 4 * (k : Int) + 1 < 64 := by omega
    have u2 : 4 * (k : Int) + 2 < 64 := by omega
    have u3 : 4 * (k : Int) + 3 < 64 := by omega
    have v0 : 0 <= 4 * (k : Int) := by omega
    have v1 : 0 <= 4 * (k : Int) + 1 := by omega
    have v2 : 0 <= 4 * (k : Int) + 2 := by omega
    have v3 : 0 <= 4 * (k : Int) + 3 := by omega
    go_wp2
    refine wp_region_still_tail 31 (by kernel_rfl) (by kernel_rfl) ?_
    simp only [List.take_succ_cons, List.take_zero, List.drop_succ_cons, List.drop_zero]
    repeat still_step
    refine wpStill_nil ?_
    have EV := word_sum q0 q1 q2 q3 (Sha.wd l k) HW4.out
    rw [<- HM.out] at EV
    rw [EV]
    change wpList _ _ _ _ _ wr.drew
    clear EV m0 m1 m2 m3 n0 n1 n2 n3 u0 u1 u2 u3 v0 v1 v2 v3 c0 c1 c2 c3 b0 b1 b2 b3
    generalize Sha.M (Sha.wd l) k = mk at *
    go_wp2
    go_roundw
    case rel => exact ⟨k + 1, by omega, by go_num, h2.drew.far (by simp; omega) _, h3.drew.far (by simp) _, h4.drew.far (by simp) _, by rw [<- HST.out]; exact h5.drew.set _ _, hb.drew.setCell (by have := HG.out; simp; omega) _⟩
    case measure => simp [intOf]; omega
   ·have d2 : wr.cell? ⟨g + 1 + 1 + 1, k - 2, none⟩ = some (.int .u32 ((Sha.M (Sha.wd l) (k - 2)).toNat : Int)) := (h5.cell _).trans (fillTo_get_lt (by omega) (by omega))
    have d7 : wr.cell? ⟨g + 1 + 1 + 1, k - 7, none⟩ = some (.int .u32 ((Sha.M (Sha.wd l) (k - 7)).toNat : Int)) := (h5.cell _).trans (fillTo_get_lt (by omega) (by omega))
    have d15 : wr.cell? ⟨g + 1 + 1 + 1, k - 15, none⟩ = some (.int .u32 ((Sha.M (Sha.wd l) (k - 15)).toNat : Int)) := (h5.cell _).trans (fillTo_get_lt (by omega) (by omega))
    have d16 : wr.cell? ⟨g + 1 + 1 + 1, k - 16, none⟩ = some (.int .u32 ((Sha.M (Sha.wd l) (k - 16)).toNat : Int)) := (h5.cell _).trans (fillTo_get_lt (by omega) (by omega))
    have hM := Sha.M_ge (Sha.wd l) (t := k) (by omega)
    generalize Sha.M (Sha.wd l) (k - 2) = y2 at *
    generalize Sha.M (Sha.wd l) (k - 7) = y7 at *
    generalize Sha.M (Sha.wd l) (k - 15) = y15 at *
    generalize Sha.M (Sha.wd l) (k - 16) = y16 at *
    have HM := Lib.hid hM
    clear hM
    have m0 : IntKind.i64.wrap ((k : Int) - 2) = (k : Int) - 2 := IntWalk.i64_in _ (by omega)
    have m1 : IntKind.i64.wrap ((k : Int) - 7) = (k : Int) - 7 := IntWalk.i64_in _ (by omega)
    have m2 : IntKind.i64.wrap ((k : Int) - 15) = (k : Int) - 15 := IntWalk.i64_in _ (by omega)
    have m3 : IntKind.i64.wrap ((k : Int) - 16) = (k : Int) - 16 := IntWalk.i64_in _ (by omega)
    have n0 : ((k : Int) - 2).toNat = k - 2 := by omega
    have n1 : ((k : Int) - 7).toNat = k - 7 := by omega
    have n2 : ((k : Int) - 15).toNat = k - 15 := by omega
    have n3 : ((k : Int) - 16).toNat = k - 16 := by omega
    have u0 : (k : Int) - 2 < 64 := by omega
    have u1 : (k : Int) - 7 < 64 := by omega
    have u2 : (k : Int) - 15 < 64 := by omega
    have u3 : (k : Int) - 16 < 64 := by omega
    have v0 : 0 <= (k : Int) - 2 := by omega
    have v1 : 0 <= (k : Int) - 7 := by omega
    have v2 : 0 <= (k : Int) - 15 := by omega
    have v3 : 0 <= (k : Int) - 16 := by omega
    have x0 : 2 <= (k : Int) := by omega
    have x1 : 7 <= (k : Int) := by omega
    have x2 : 15 <= (k : Int) := by omega
    have x3 : 16 <= (k : Int) := by omega
    go_wp2
    refine wp_region_still_tail 23 (by kernel_rfl) (by kernel_rfl) ?_
    simp only [List.take_succ_cons, List.take_zero, List.drop_succ_cons, List.drop_zero]
    repeat still_step
    still_call (refR_s1 _ _)
    repeat still_step
    still_call (refR_s0 _ _)
    repeat still_step
    refine wpStill_nil ?_
    change wpList _ _ _ _ _ wr.drew
    have EV : IntKind.u32.wrap (IntKind.u32.wrap (IntKind.u32.wrap (((Sha.s1 y2).toNat : Int) + (y7.toNat : Int)) + ((Sha.s0 y15).toNat : Int)) + (y16.toNat : Int)) = ((Sha.M (Sha.wd l) k).toNat : Int) := by
     rw [HM.out]
     simp only [IntKind.wrap_u32', bv_add]
    rw [EV]
    clear EV m0 m1 m2 m3 n0 n1 n2 n3 u0 u1 u2 u3 v0 v1 v2 v3 x0 x1 x2 x3 d2 d7 d15 d16 HM
    generalize Sha.M (Sha.wd l) k = mk at *
    go_wp2
    go_roundw
    case rel => exact ⟨k + 1, by omega, by go_num, h2.drew.far (by simp; omega) _, h3.drew.far (by simp) _, h4.drew.far (by simp) _, by rw [<- HST.out]; exact h5.drew.set _ _, hb.drew.setCell (by have := HG.out; simp; omega) _⟩
    case measure => simp [intOf]; omega
  ·obtain rfl : k = 64 := by omega
   rw [show ((64 : Nat) : Int) = 64 from rfl]
   have hbs := hb.size
   go_upto_region 8 with fail
   go_cut [7] from 7 to 73 (fun v W => ∃ bk, v = .pointer (some ⟨bk, 0, none⟩) /\ Row W bk 231 kCells /\ wr.heap.size <= bk /\ Later wr W)
   case first =>
    go_wp2_with fail
    refine (refK_any _).mono ?_
    rintro e w1 ⟨rfl, hb1⟩
    go_wp2_with (first
     | (with_reducible refine wpList_alloc rfl 231 rfl (alloc64 _) ?_)
     | (refine wpList_store rfl 231 (.tmp 7) (.tmp 73) rfl (.pointer (some ⟨w1.heap.size, 0, none⟩)) (.agg kCells) rfl rfl (storeK _) ?_))
    go_meet
    exact ⟨w1.heap.size, rfl, Row.new w1 _ _, hb1.size, ((Later.refl wr).call hb1).alloc _⟩
   case rest =>
    obtain ⟨bk, rfl, hbk, hbk0, hLk⟩ := hcut
    obtain ⟨wk, rfl⟩ : ∃ y, y = wc := ⟨_, rfl⟩
    have e2 := h2.later hLk
    have e4 := h4.later hLk
    have e5 := h5.later hLk
    have hld := run_load_row (P := Tryz.prog) (T := 195) e2 Tryz.underlying195 rfl (by rw [stC_size]; exact info8)
    have hbw : Below w.heap.size w wk := hb.trans (hLk.mono hbs)
    have hLs := hLk.size
    have hbkl := hbk.lt
    have gl4 := h4.lt
    have gl5 := h5.lt
    clear h2 h3 h4 h5 hb hLk
    go_upto_region 9 with fail
    go_cut [8] from 8 to 74 (fun v W => ∃ bx, v = .pointer (some ⟨bx, 0, none⟩) /\ Row W bx 195 (stC x 0) /\ wk.heap.size <= bx /\ Later wk W)
    case first =>
     go_wp2_with (first
      | (refine wpList_load rfl 195 (.tmp 2) rfl (.pointer (some ⟨g, 0, none⟩)) rfl hld ?_)
      | (with_reducible refine wpList_alloc rfl 195 rfl (alloc8 _) ?_)
      | (refine wpList_store rfl 195 (.tmp 8) (.tmp 74) rfl (.pointer (some ⟨wk.heap.size, 0, none⟩)) (.agg (stC x 0)) rfl rfl (storeS x _) ?_))
     go_meet
     exact ⟨wk.heap.size, rfl, Row.new wk _ _, Nat.le_refl _, (Later.refl wk).alloc _⟩
    case rest =>
     obtain ⟨bx, rfl, ex, hbx, hLx⟩ := hcut
     obtain ⟨w2, rfl⟩ : ∃ y, y = wc := ⟨_, rfl⟩
     have f2 := e2.later hLx
     have f4 := e4.later hLx
     have f5 := e5.later hLx
     have fk := hbk.later hLx
     have fb := hbw.trans (hLx.mono hbw.size)
     have hbk1 : bk < bx := by omega
     have hb51 : g + 1 + 1 + 1 < bx := by omega
     have hbw : w.heap.size <= bx := by have := hbw.size; omega
     clear e2 e4 e5 hbk hld hbx hLx
     go_wp2_with fail
     go_loopw [9] (fun t wr => ∃ k : Nat, k <= 64 /\ t = .int .i64 k /\ Row wr g 195 (stC x 0) /\ Row wr (g + 1 + 1) 195 z8 /\ Row wr (g + 1 + 1 + 1) 231 (wordsC l 64) /\ Row wr bk 231 kCells /\ Row wr bx 195 (stC (Sha.rs x (Sha.wd l) k) 0) /\ Below w.heap.size w wr) (fun t _ => 64 - (intOf t).toNat)
     case atStart => exact ⟨0, by omega, rfl, f2, f4, f5, fk, ex, fb⟩
     case round =>
      obtain ⟨k, hk, rfl, h2, h4, h5, h6, h7, hb⟩ := hrel
      clear f2 f4 f5 fk ex fb
      by_cases hlt : k < 64
      ·have hnx : Sha.rs x (Sha.wd l) (k + 1) = Sha.rnd (Sha.kc k) (Sha.M (Sha.wd l) k) (Sha.rs x (Sha.wd l) k) := rfl
       have cm : wr.cell? ⟨g + 1 + 1 + 1, k, none⟩ = some (.int .u32 ((Sha.M (Sha.wd l) k).toNat : Int)) := (h5.cell _).trans (fillTo_get_lt (by omega) (by omega))
       have ck : wr.cell? ⟨bk, k, none⟩ = some (.int .u32 ((Sha.kc k).toNat : Int)) := (h6.cell _).trans (kCells_get k hlt)
       have HNX := Lib.hid hnx
       clear hnx
       generalize Sha.rs x (Sha.wd l) k = s at *
       generalize Sha.M (Sha.wd l) k = mk at *
       generalize Sha.kc k = kk at *
       have c0 : wr.cell? ⟨bx, 0, none⟩ = some (.int .u32 (s.a.toNat : Int)) := (h7.cell 0).trans (stC_get s 0 0 (by decide))
       have c1 : wr.cell? ⟨bx, 1, none⟩ = some (.int .u32 (s.b.toNat : Int)) := (h7.cell 1).trans (stC_get s 0 1 (by decide))
       have c2 : wr.cell? ⟨bx, 2, none⟩ = some (.int .u32 (s.c.toNat : Int)) := (h7.cell 2).trans (stC_get s 0 2 (by decide))
       have c3 : wr.cell? ⟨bx, 3, none⟩ = some (.int .u32 (s.d.toNat : Int)) := (h7.cell 3).trans (stC_get s 0 3 (by decide))
       have c4 : wr.cell? ⟨bx, 4, none⟩ = some (.int .u32 (s.e.toNat : Int)) := (h7.cell 4).trans (stC_get s 0 4 (by decide))
       have c5 : wr.cell? ⟨bx, 5, none⟩ = some (.int .u32 (s.f.toNat : Int)) := (h7.cell 5).trans (stC_get s 0 5 (by decide))
       have c6 : wr.cell? ⟨bx, 6, none⟩ = some (.int .u32 (s.g.toNat : Int)) := (h7.cell 6).trans (stC_get s 0 6 (by decide))
       have c7 : wr.cell? ⟨bx, 7, none⟩ = some (.int .u32 (s.h.toNat : Int)) := (h7.cell 7).trans (stC_get s 0 7 (by decide))
       obtain ⟨one, hone⟩ : ∃ o, s.h + Sha.S1 s.e + Sha.ch s.e s.f s.g + kk + mk = o := ⟨_, rfl⟩
       obtain ⟨two, htwo⟩ : ∃ o, Sha.S0 s.a + Sha.maj s.a s.b s.c = o := ⟨_, rfl⟩
       have E1 : (((s.h.toNat : Int) + ((Sha.S1 s.e).toNat : Int) + ((Sha.ch s.e s.f s.g).toNat : Int) + (kk.toNat : Int)) % 4294967296 + (mk.toNat : Int)) % 4294967296 = (one.toNat : Int) := by
        rw [<- hone]
        simp only [BitVec.toNat_add]
        omega
       have E2 : (((Sha.S0 s.a).toNat : Int) + ((Sha.maj s.a s.b s.c).toNat : Int)) % 4294967296 = (two.toNat : Int) := by
        rw [<- htwo, bv_add]
       have HE1 := Lib.hid E1
       have HE2 := Lib.hid E2
       have HO := Lib.hid hone
       have HT := Lib.hid htwo
       clear hone htwo E1 E2
       go_wp2_with fail
       go_quiet ((first | (go_at_call 159; exact Calls.quiet_of_same (refS_S1 _ _)) | (go_at_call 160; exact Calls.quiet_of_same (picked_q _ _ _ _))))
       obtain ⟨nA, hnA⟩ : ∃ y, y = nq := ⟨_, rfl⟩
       rw [<- hnA]
       clear hnA
       rw [HE1.out]
       go_wp2_with fail
       go_quiet ((first | (go_at_call 159; exact still_q (refS_S0 _)) | (go_at_call 161; exact still_q (most_q _ _ _))))
       rw [HE2.out]
       have hag : Value.agg #[.int .u32 (((one.toNat : Int) + (two.toNat : Int)) % 4294967296), .int .u32 (s.a.toNat : Int), .int .u32 (s.b.toNat : Int), .int .u32 (s.c.toNat : Int), .int .u32 (((s.d.toNat : Int) + (one.toNat : Int)) % 4294967296), .int .u32 (s.e.toNat : Int), .int .u32 (s.f.toNat : Int), .int .u32 (s.g.toNat : Int)] = .agg (stC (Sha.rnd kk mk s) 0) := by
        rw [bv_add, bv_add, <- HO.out, <- HT.out]
        rfl
       obtain ⟨W', hst, hr', hg'⟩ := run_put_row (P := Tryz.prog) (T := 195) (w := wr.drewN (nA + nq)) h7 (vs := stC (Sha.rnd kk mk s) 0) (by rw [stC_size, stC_size]) (by rw [stC_size]; exact info8) (stC_one _ _)
       have HAG := Lib.hid hag
       clear hag HE1 HE2 HO HT
       go_wp2_with (first | (refine wpList_store rfl 195 (.tmp 8) (.tmp 131) rfl (.pointer (some ⟨bx, 0, none⟩)) (.agg (stC (Sha.rnd kk mk s) 0)) rfl HAG.out hst ?_))
       have hgb : ∀ j, j ≠ bx -> some j ≠ some bx := fun j h e => h (by injection e)
       go_roundw
       case rel => exact ⟨k + 1, by omega, by go_num, (h2.drewN _).grown hg' (hgb _ (by omega)), (h4.drewN _).grown hg' (hgb _ (by omega)), (h5.drewN _).grown hg' (hgb _ (by omega)), (h6.drewN _).grown hg' (hgb _ (by omega)), by rw [HNX.out]; exact hr', (below_dN hb _).grown hg' hb.size (fun j e => by cases e; exact hbw)⟩
       case measure => simp [intOf]; omega
      ·obtain rfl : k = 64 := by omega
       rw [show ((64 : Nat) : Int) = 64 from rfl]
       have hblk : Sha.blk x l = (Sha.rs x (Sha.wd l) 64).add x := rfl
       have HBK := Lib.hid hblk
       clear hblk h5 h6
       generalize Sha.rs x (Sha.wd l) 64 = y at *
       have hz0 : stTo (stC y 0) 0 (y.add x) 0 = stC y 0 := rfl
       have HZ0 := Lib.hid hz0
       clear hz0
       go_wp2_with fail
       go_loopw [12] (fun t wr => ∃ k : Nat, k <= 8 /\ t = .int .i64 k /\ Row wr g 195 (stC x 0) /\ Row wr (g + 1 + 1) 195 z8 /\ Row wr bx 195 (stTo (stC y 0) 0 (y.add x) k) /\ Below w.heap.size w wr) (fun t _ => 8 - (intOf t).toNat)
       case atStart => exact ⟨0, by omega, rfl, h2, h4, by rw [HZ0.out]; exact h7, hb⟩
       case round =>
        obtain ⟨k, hk, rfl, k2, k4, k7, kb⟩ := hrel
        clear h2 h4 h7 hb
        by_cases hlt : k < 8
        ·have hsu := stTo_succ (stC y 0) 0 (y.add x) k hlt
         have cy : wr.cell? ⟨bx, k, none⟩ = some (.int .u32 ((y.get k).toNat : Int)) := (k7.cell _).trans (by
          have h1 := stTo_get (stC y 0) 0 (y.add x) k k (Nat.le_refl _) hlt (by rw [stC_size]; omega)
          rw [Nat.zero_add] at h1
          rw [h1, stC_get y 0 k hlt, show (k + 0) % 8 = k from by omega])
         have cx : wr.cell? ⟨g, k, none⟩ = some (.int .u32 ((x.get k).toNat : Int)) := (k2.cell _).trans (by rw [stC_get x 0 k hlt, show (k + 0) % 8 = k from by omega])
         have hfx := k7.frozen k
         rw [st_add_get, Nat.zero_add] at hsu
         have HSU := Lib.hid hsu
         clear hsu
         generalize y.get k = yk at *
         generalize x.get k = xk at *
         go_wp2_with fail
         refine wp_region_still_tail 9 (by kernel_rfl) (by kernel_rfl) ?_
         simp only [List.take_succ_cons, List.take_zero, List.drop_succ_cons, List.drop_zero]
         repeat still_step
         refine wpStill_nil ?_
         change wpList _ _ _ _ _ wr.drew
         clear cx
         go_wp2_with fail
         go_roundw
         case rel => exact ⟨k + 1, by omega, by go_num, k2.drew.far (by simp; omega) _, k4.drew.far (by simp; omega) _, by rw [bv_add, HSU.out]; exact k7.drew.set _ _, kb.drew.setCell hbw _⟩
         case measure => simp [intOf]; omega
        ·obtain rfl : k = 8 := by omega
         have hst8 : stTo (stC y 0) 0 (y.add x) 8 = stC (y.add x) 0 := by
          unfold stTo
          rw [List.take_of_length_le (by simp [Sha.St.list]), setFrom_whole _ _ (by rw [stC_size]; rfl), stC_zero]
         rw [hst8, <- HBK.out] at k7
         have hld := run_load_row (P := Tryz.prog) (T := 195) k7 Tryz.underlying195 rfl (by rw [stC_size]; exact info8)
         obtain ⟨W', hst, hr', hg'⟩ := run_put_row (P := Tryz.prog) (T := 195) k4 (vs := stC (Sha.blk x l) 0) (by rw [stC_size]; rfl) (by rw [stC_size]; exact info8) (stC_one _ _)
         clear hst8 HBK
         go_wp2_with (first
          | (refine wpList_load rfl 195 (.tmp 8) rfl (.pointer (some ⟨bx, 0, none⟩)) rfl hld ?_)
          | (refine wpList_store rfl 195 (.tmp 4) (.tmp 145) rfl (.pointer (some ⟨g + 1 + 1, 0, none⟩)) (.agg (stC (Sha.blk x l) 0)) rfl rfl hst ?_))
         refine bodyPost_ret (results_cell_row rfl _ _ (g + 1 + 1) 195 (stC (Sha.blk x l) 0) (0, 0) _ rfl hr' Tryz.underlying195 rfl (by rw [stC_size]; exact info8)) rfl ⟨rfl, kb.grown hg' kb.size (fun j e => by cases e; have := HG.out; omega)⟩
theorem told4_list (n : Nat) : Sha.told n 4 = [UInt8.ofNat (n / 16777216), UInt8.ofNat (n / 65536), UInt8.ofNat (n / 256), UInt8.ofNat n] := by
 simp [Sha.told, List.range_succ]
theorem refTold_any (x : Sha.St) (w : World) :
  Calls Tryz.prog 131 #[.agg (stC x 0)] w fun e w' => e = .returned (.agg (hC (Sha.toldSt x))) /\ Below w.heap.size w w' := by
 have hb1 := run_box_row (P := Tryz.prog) w 195 (stC x 0) (by rw [stC_size]; exact info8)
 go_enter Tryz.func131, Tryz.ntmps131
 go_wp2_with (first
  | (with_reducible refine wpList_box rfl 195 (.tmp 0) rfl (.agg (stC x 0)) rfl hb1 ?_)
  | (with_reducible refine wpList_alloc rfl 25 rfl (allocH _) ?_))
 obtain ⟨g, hg⟩ : ∃ y, y = w.heap.size := ⟨_, rfl⟩
 rw [<- hg]
 have hr1 : Row (((w.alloc (.cells (stC x 0) 195)).alloc (.cells (hC []) 25)).alloc (.cells (hC []) 25)) g 195 (stC x 0) := ((Row.newAt hg.symm).alloc _).alloc _
 have hr2 : Row (((w.alloc (.cells (stC x 0) 195)).alloc (.cells (hC []) 25)).alloc (.cells (hC []) 25)) (g + 1) 25 (hC []) := (Row.newAt (by simp only [World.size_alloc]; omega)).alloc _
 have hr3 : Row (((w.alloc (.cells (stC x 0) 195)).alloc (.cells (hC []) 25)).alloc (.cells (hC []) 25)) (g + 1 + 1) 25 (hC (preC x 0)) := Row.newAt (by simp only [World.size_alloc]; omega)
 have hbl : Below w.heap.size w (((w.alloc (.cells (stC x 0) 195)).alloc (.cells (hC []) 25)).alloc (.cells (hC []) 25)) := (((Later.refl w).alloc _).alloc _).alloc _
 have HG := Lib.hid hg
 clear hg hb1
 generalize ((w.alloc (.cells (stC x 0) 195)).alloc (.cells (hC []) 25)).alloc (.cells (hC []) 25) = w1 at *
 go_loopw [4] (fun t wr => ∃ k : Nat, k <= 8 /\ t = .int .i64 k /\ Row wr g 195 (stC x 0) /\ Row wr (g + 1) 25 (hC []) /\ Row wr (g + 1 + 1) 25 (hC (preC x k)) /\ Below w.heap.size w wr) (fun t _ => 8 - (intOf t).toNat)
 case atStart => exact ⟨0, by omega, rfl, hr1, hr2, hr3, hbl⟩
 case round =>
  obtain ⟨k, hk, rfl, h1, h2, h3, hb⟩ := hrel
  clear hr1 hr2 hr3 hbl
  by_cases hlt : k < 8
  ·have hc := preC_succ x k hlt
   have hcx : wr.cell? ⟨g, k, none⟩ = some (.int .u32 ((x.get k).toNat : Int)) := (h1.cell _).trans (by rw [stC_get x 0 k hlt, show (k + 0) % 8 = k from by omega])
   have hpl := preC_len x k (by omega)
   have hsz := hC_size (preC x k) (by omega)
   have hset := hC_copy (preC x k) (Sha.told (x.get k).toNat 4) (by rw [Sha.told_len]; omega)
   rw [<- hc, hpl, told4_list] at hset
   generalize x.get k = xk at *
   obtain ⟨v0, c0⟩ := h3.has (4 * k) (by omega)
   obtain ⟨v1, c1⟩ := h3.has (4 * k + 1) (by omega)
   obtain ⟨v2, c2⟩ := h3.has (4 * k + 2) (by omega)
   obtain ⟨v3, c3⟩ := h3.has (4 * k + 3) (by omega)
   have f0 := h3.frozen (4 * k)
   have f1 := h3.frozen (4 * k + 1)
   have f2 := h3.frozen (4 * k + 2)
   have f3 := h3.frozen (4 * k + 3)
   have HSET := Lib.hid hset
   clear hset hc hpl hsz
   have n0 : (4 * (k : Int)).toNat = 4 * k := by omega
   have n1 : (4 * (k : Int) + 1).toNat = 4 * k + 1 := by omega
   have n2 : (4 * (k : Int) + 2).toNat = 4 * k + 2 := by omega
   have n3 : (4 * (k : Int) + 3).toNat = 4 * k + 3 := by omega
   have u0 : 4 * (k : Int) < 32 := by omega
   have u1 : 4 * (k : Int) + 1 < 32 := by omega
   have u2 : 4 * (k : Int) + 2 < 32 := by omega
   have u3 : 4 * (k : Int) + 3 < 32 := by omega
   have hxl := xk.isLt
   go_wp2
   go_roundw
   case rel =>
    have y0 : (xk.toNat : Int) / 16777216 = ((UInt8.ofNat (xk.toNat / 16777216)).toNat : Int) := by rw [UInt8.toNat_ofNat']; omega
    have y1 : (xk.toNat : Int) / 65536 % 256 = ((UInt8.ofNat (xk.toNat / 65536)).toNat : Int) := by rw [UInt8.toNat_ofNat']; omega
    have y2 : (xk.toNat : Int) / 256 % 256 = ((UInt8.ofNat (xk.toNat / 256)).toNat : Int) := by rw [UInt8.toNat_ofNat']; omega
    have y3 : (xk.toNat : Int) % 256 = ((UInt8.ofNat xk.toNat).toNat : Int) := by rw [UInt8.toNat_ofNat']; omega
    rw [y0, y1, y2, y3]
    have hb0 : w.heap.size <= g + 1 + 1 := by have := HG.out; omega
    refine ⟨k + 1, by omega, by go_num, (((h1.far (by simp; omega) _).far (by simp; omega) _).far (by simp; omega) _).far (by simp; omega) _, (((h2.far (by simp) _).far (by simp) _).far (by simp) _).far (by simp) _, ?_, ((((hb.setCell hb0 _).setCell hb0 _).setCell hb0 _).setCell hb0 _)⟩
    rw [<- HSET.out]
    exact (((h3.set _ _).set _ _).set _ _).set _ _
   case measure => simp [intOf]; omega
  ·obtain rfl : k = 8 := by omega
   have hs32 := hC_size (Sha.toldSt x) (by rw [Sha.toldSt_len]; omega)
   rw [preC_all] at h3
   have hld := run_load_row (P := Tryz.prog) (T := 25) h3 Tryz.underlying25 rfl (by rw [hs32]; exact infoH)
   obtain ⟨W', hst, hr', hg'⟩ := run_put_row (P := Tryz.prog) (T := 25) h2 (vs := hC (Sha.toldSt x)) (by rw [hs32]; rfl) (by rw [hs32]; exact infoH) (hC_one _)
   have HS := Lib.hid hs32
   clear hs32
   go_wp2_with (first
    | (refine wpList_load rfl 25 (.tmp 3) rfl (.pointer (some ⟨g + 1 + 1, 0, none⟩)) rfl hld ?_)
    | (refine wpList_store rfl 25 (.tmp 2) (.tmp 46) rfl (.pointer (some ⟨g + 1, 0, none⟩)) (.agg (hC (Sha.toldSt x))) rfl rfl hst ?_))
   refine bodyPost_ret (results_cell_row rfl _ _ (g + 1) 25 (hC (Sha.toldSt x)) (0, 0) _ rfl hr' Tryz.underlying25 rfl (by rw [HS.out]; exact infoH)) rfl ⟨rfl, hb.grown hg' hb.size (fun j e => by cases e; have := HG.out; omega)⟩
theorem own_void (w : World) (U : TypeId) (base : Nat) (hb : base <= w.heap.size) : Own U (w.alloc (.cells #[] U)) base (.slice (some ⟨w.heap.size, 0, none⟩) 0 0) [] :=
 ⟨rfl, .inr ⟨_, 0, #[], rfl, hb, heap_alloc_new w _, Nat.le_refl _, Nat.zero_le _, rfl, rfl⟩⟩
theorem told_upto (n many k : Nat) (h : k < many) : (Sha.told n many).take (k + 1) = (Sha.told n many).take k ++ [UInt8.ofNat (n / 256 ^ (many - 1 - k))] := by
 rw [List.take_succ_eq_append_getElem (by rw [Sha.told_len]; exact h)]
 congr 2
 simp only [Sha.told, List.getElem_map, List.getElem_range]
theorem shift_val (n k : Nat) (h : k < 8) : ((n : Int) * 8 / 2 ^ (56 - 8 * k)).tmod 256 % 256 = ((UInt8.ofNat (n * 8 / 256 ^ (8 - 1 - k))).toNat : Int) := by
 have e : (2 : Int) ^ (56 - 8 * k) = ((256 ^ (8 - 1 - k) : Nat) : Int) := by
  rw [show 56 - 8 * k = 8 * (8 - 1 - k) from by omega, Int.pow_mul, Int.natCast_pow]
  rfl
 rw [e, UInt8.toNat_ofNat']
 generalize 256 ^ (8 - 1 - k) = p
 have e2 : (n : Int) * 8 / (p : Int) = ((n * 8 / p : Nat) : Int) := by rw [Int.natCast_ediv, Int.natCast_mul]; rfl
 rw [e2]
 generalize n * 8 / p = q
 rw [Int.tmod_eq_emod_of_nonneg (by omega)]
 omega
theorem refPadded_any (A : Option Addr) (n ca : Nat) (l : List UInt8) (w : World) (hn : l.length = n) (hm : n <= 100000000) (hr : Rd w A l) :
  Calls Tryz.prog 129 #[.slice A n ca] w fun e w' => ∃ v, e = .returned v /\ Own 5 w' w.heap.size v (Sha.padded l) /\ Below w.heap.size w w' := by
 obtain ⟨z, hz⟩ : ∃ z, Sha.noughts n = z := ⟨_, rfl⟩
 have hzi : (128 - ((n : Int) + 9)) % 64 = (z : Int) := by rw [<- hz]; unfold Sha.noughts; omega
 have hz63 : z <= 63 := by rw [<- hz]; unfold Sha.noughts; omega
 have hpad : Sha.padded l = l ++ [128] ++ List.replicate z 0 ++ Sha.told (n * 8) 8 := by
  unfold Sha.padded
  rw [hn, hz]
  simp [Sha.zeros]
 have HN := Lib.hid hn
 have HP := Lib.hid hpad
 have HZI := Lib.hid hzi
 clear hz hpad hn hzi
 have hp1 : 0 <= 128 - ((n : Int) + 9) % 64 := by omega
 go_enter Tryz.func129, Tryz.ntmps129
 go_wp2_with (first
  | (at_builtin; refine wpList_append_bytes rfl (.tmp 12) (.tmp 13) 60 rfl w.heap.size 5 Tryz.underlying60 (info5 : ByteInfo Tryz.prog 5) _ [] rfl (own_void w _ _ (Nat.le_refl _)) A n ca l rfl HN.out (hr.alloc _) (by simp; omega) (by simp) ?_; intro v1 w1 hown1 hg1 hat1)
  | (at_builtin; refine wpList_append_bytes rfl (.tmp 14) (.tmp 15) 60 rfl w.heap.size 5 Tryz.underlying60 (info5 : ByteInfo Tryz.prog 5) _ l rfl (Own.alloc hown1 _) (some ⟨w1.heap.size, 0, none⟩) 1 1 [128] rfl rfl (Rd.byte1 rfl) (by have := HN.out; omega) (by have := hg1.size; simp at this ⊢; omega) ?_; intro v2 w2 hown2 hg2 hat2; have hb1 : Below w.heap.size w w1 := (below_new w _).grown hg1 (by simp) (fun k hk => Nat.le_of_eq (Option.some.inj hk)); have hb2 : Below w.heap.size w w2 := (hb1.alloc hb1.size _).grown hg2 (by have := hb1.size; simp; omega) (fun k hk => (hown1.at_ k hk).1); obtain ⟨g2, c2, rfl, hown2', hbg2, hgl2, hnc2, hcm2⟩ := Own.formN hown2 (n := n + 1) (by rw [List.length_append, HN.out]; rfl) (by omega))
  | (at_builtin; refine wpList_append_zeros rfl (.tmp 17) (.tmp 18) 60 3 rfl w.heap.size g2 c2 5 .i64 Tryz.underlying60 Tryz.underlying3 (info5 : ByteInfo Tryz.prog 5) (l ++ [128]) (n + 1) (by rw [List.length_append, HN.out]; rfl) rfl hown2' z (congrArg (Value.int .i64) HZI.out) (by omega) (by have := hb2.size; omega) ?_; intro v3 w3 hown3 hg3 hat3; have hb3 : Below w.heap.size w w3 := hb2.grown hg3 hb2.size (fun k hk => by cases hk; exact hbg2); clear hown2' hown2 hown1 hg1 hg2 hg3 hat1 hat2 hb1 hb2)
  | (fail))
 go_loopw [4, 5] (fun v t wr => ∃ k : Nat, k <= 8 /\ t = .int .i64 k /\ Own 5 wr w.heap.size v (l ++ [128] ++ List.replicate z 0 ++ (Sha.told (n * 8) 8).take k) /\ Below w.heap.size w wr) (fun _ t _ => 8 - (intOf t).toNat)
 case atStart => exact ⟨0, by omega, rfl, by rw [List.take_zero, List.append_nil]; exact hown3, hb3⟩
 case round =>
  obtain ⟨k, hk, rfl, hown, hb⟩ := hrel
  clear hown3 hb3 hat3
  by_cases hlt : k < 8
  ·have hnx := told_upto (n * 8) 8 k hlt
   have hln : (l ++ [128] ++ List.replicate z (0 : UInt8) ++ (Sha.told (n * 8) 8).take k).length <= 100000100 := by
    simp only [List.length_append, List.length_cons, List.length_nil, List.length_replicate, List.length_take, Sha.told_len, HN.out]
    omega
   obtain ⟨acc, hacc⟩ : ∃ y, l ++ [128] ++ List.replicate z (0 : UInt8) ++ (Sha.told (n * 8) 8).take k = y := ⟨_, rfl⟩
   have hnx2 : l ++ [128] ++ List.replicate z (0 : UInt8) ++ (Sha.told (n * 8) 8).take (k + 1) = acc ++ [UInt8.ofNat (n * 8 / 256 ^ (8 - 1 - k))] := by rw [hnx, <- hacc, List.append_assoc _ (List.take k _)]
   rw [hacc] at hown hln
   have HX := Lib.hid hnx2
   clear hnx hacc hnx2
   have e0 : 0 <= 56 - 8 * (k : Int) := by omega
   go_wp2_with (first
    | (at_builtin; refine wpList_append_bytes rfl (.tmp 24) (.tmp 36) 60 rfl w.heap.size 5 Tryz.underlying60 (info5 : ByteInfo Tryz.prog 5) _ acc rfl (hown.alloc _) (some ⟨wr.heap.size, 0, none⟩) 1 1 [UInt8.ofNat (n * 8 / 256 ^ (8 - 1 - k))] rfl rfl (Rd.byte1 ?hz) (by omega) (by have := hb.size; simp; omega) ?_; rotate_left; intro v2 w2 hown2 hg2 hat2)
    | fail)
   case hz => exact shift_val n k hlt
   go_roundw
   case rel => exact ⟨k + 1, by omega, by go_num, by rw [HX.out]; exact hown2, (hb.alloc hb.size _).grown hg2 (by have := hb.size; simp; omega) (fun j hj => (hown.at_ j hj).1)⟩
   case measure => simp [intOf]; omega
  ·obtain rfl : k = 8 := by omega
   rw [List.take_of_length_le (by rw [Sha.told_len]; omega), <- HP.out] at hown
   go_wp2
   go_ret
   exact ⟨_, rfl, hown, hb⟩
theorem run_rows2 (W : World) (A : Option Addr) (n c : Nat) (B : Option Addr) (m d : Nat) : (Instr.buildSlice 142 2 #[(0, .slice A n c), (1, .slice B m d)]).run Tryz.prog W = .ok (.slice (some ⟨W.heap.size, 0, none⟩) 2 2) (W.alloc (.cells #[.slice A n c, .slice B m d] 60)) := by kernel_rfl
theorem foldN_step (x : Sha.St) (b : List UInt8) (k : Nat) : Sha.foldN (k + 1) x b = Sha.blk (Sha.foldN k x b) ((b.drop (64 * k)).take 64) := by
 rw [Sha.foldN_add]
 rfl
theorem op_arr {P : Program} {Q : Exit -> Act -> World -> Prop} {o : Oper} {a : Act} {W : World} {R : Value -> World -> Prop} {t : TypeId} {x : Operand} {vx v : Value} (ho : o.op = .sliceToArrayPointer t x) (hx : a.eval x = vx) (hr : (Instr.arrayAt t vx).run P W = .ok v W) (h : R v W) : o.wp P a W (fun a' W' => ∃ v, a' = a.put o.dst v /\ Later W W' /\ R v W') Q := by
 refine op_value (v := v) (W' := W) ?_ (Later.refl _) h
 unfold execOp
 simp only [ho, hx, hr, Sem.run_bind, Sem.run_pure, Result.andThen_ok]
theorem run_arr64 {A : Option Addr} {c : Nat} (W : World) : (Instr.arrayAt 198 (.slice A 64 c)).run Tryz.prog W = .ok (.pointer A) W := by
 simp [Instr.arrayAt, run_underlying Tryz.underlying198]
theorem load_rd64 {b o : Nat} {l : List UInt8} {W : World} (hl : l.length = 64) (hr : Rd W (some ⟨b, o, none⟩) l) : (Instr.loadAt 198 (.pointer (some ⟨b, o, none⟩))).run Tryz.prog W = .ok (.agg (l.map byteV).toArray) W := by
 refine run_loadAt_mid W b o 198 (l.map byteV) _ (fun j v hv => ?_) Tryz.underlying198 rfl (by rw [List.length_map, hl]; exact infoB64)
 have hj : j < l.length := by
  rcases Nat.lt_or_ge j l.length with h | h
  ·exact h
  ·rw [List.getElem?_eq_none (by simpa using h)] at hv; cases hv
 obtain ⟨b', o', e, hc⟩ := hr.at_ hj
 injection e with e
 injection e with e1 e2
 subst e1 e2
 rw [hc, <- hv, List.getElem?_map, List.getElem?_eq_getElem hj]
 rfl
theorem refShaSum_any (A : Option Addr) (n ca : Nat) (l : List UInt8) (w : World) (hn : l.length = n) (hm : n <= 100000000) (hr : Rd w A l) :
  Calls Tryz.prog 91 #[.slice A n ca] w fun e w' => e = .returned (.agg (hC (Sha.sum l))) /\ Below w.heap.size w w' := by
 have hpl := Sha.padded_len l
 have hpm : (Sha.padded l).length <= 100000200 := by
  simp only [Sha.padded, List.length_append, List.length_cons, Sha.zeros, List.length_replicate, Sha.told_len, Sha.noughts, hn]
  omega
 obtain ⟨pd, hpd⟩ : ∃ y, Sha.padded l = y := ⟨_, rfl⟩
 have hsum : Sha.sum l = Sha.toldSt (Sha.foldN (pd.length / 64) Sha.first pd) := by rw [<- hpd]; rfl
 obtain ⟨m, hmm⟩ : ∃ m, pd.length = 64 * m := ⟨pd.length / 64, by rw [hpd] at hpl; omega⟩
 rw [hmm, Nat.mul_div_cancel_left _ (by decide)] at hsum
 rw [hpd] at hpm
 have HPD := Lib.hid hpd
 have HS := Lib.hid hsum
 have HM := Lib.hid hmm
 have HN := Lib.hid hn
 have hfz : Sha.foldN 0 Sha.first pd = Sha.first := rfl
 have HFZ := Lib.hid hfz
 clear hpl hpd hsum hmm hn hfz
 go_enter Tryz.func91, Tryz.ntmps91
 go_upto_region 2 with (first
  | (with_reducible refine wpList_alloc rfl 25 rfl (allocH _) ?_)
  | (with_reducible refine wpList_alloc rfl 195 rfl (alloc8 _) ?_)
  | (go_at_call 128; refine (refFirst_any _).mono ?_; rintro e w1 ⟨rfl, rfl⟩)
  | (refine wpList_store rfl 195 (.tmp 3) (.tmp 5) rfl (.pointer (some ⟨_, 0, none⟩)) (.agg (stC Sha.first 0)) rfl rfl (storeS Sha.first _) ?_)
  | fail)
 obtain ⟨g, hg⟩ : ∃ y, y = w.heap.size := ⟨_, rfl⟩
 have k2 : Row (((w.alloc (.cells (hC []) 25)).alloc (.cells (stC Sha.first 0) 195)).alloc (.cells (stC Sha.first 0) 195)) g 25 (hC []) := ((Row.newAt hg.symm).alloc _).alloc _
 have k3 : Row (((w.alloc (.cells (hC []) 25)).alloc (.cells (stC Sha.first 0) 195)).alloc (.cells (stC Sha.first 0) 195)) (g + 1 + 1) 195 (stC Sha.first 0) := Row.newAt (by simp only [World.size_alloc]; omega)
 have kb : Later w (((w.alloc (.cells (hC []) 25)).alloc (.cells (stC Sha.first 0) 195)).alloc (.cells (stC Sha.first 0) 195)) := (((Later.refl w).alloc _).alloc _).alloc _
 simp only [World.size_alloc]
 rw [<- hg]
 have HG := Lib.hid hg
 clear hg
 generalize ((w.alloc (.cells (hC []) 25)).alloc (.cells (stC Sha.first 0) 195)).alloc (.cells (stC Sha.first 0) 195) = w1 at *
 have hpc := refPadded_any A n ca l w1 HN.out hm (hr.later kb)
 go_wp2_with (first
  | (go_at_call 129; refine hpc.mono ?_; clear hpc; rintro e w2 ⟨v, rfl, hown, hb2⟩)
  | fail)
 obtain ⟨A2, c2, rfl, hc1, hc2, hrd2⟩ := hown.slice
 rw [HPD.out] at hrd2 hc1 ⊢
 unfold maxLen at hc2
 have j2 := k2.later hb2
 have j3 := k3.later hb2
 have jb : Below w.heap.size w w2 := kb.call hb2
 have hA2 : ∀ b o, A2 = some ⟨b, o, none⟩ -> b ≠ g + 1 + 1 := fun b o e => by
  have h1 := (hown.at_ b (by rw [e]; rfl)).1
  have h2 := k3.lt
  omega
 rw [HM.out] at hc1 ⊢
 clear hown k2 k3 kb hb2
 go_loopw [4] (fun s wr => ∃ k Ak ck, k <= m /\ s = .slice Ak (64 * (m - k)) ck /\ 64 * (m - k) <= ck /\ ck <= 9223372036854775807 /\ Rd wr Ak (pd.drop (64 * k)) /\ (∀ b o, Ak = some ⟨b, o, none⟩ -> b ≠ g + 1 + 1) /\ Row wr g 25 (hC []) /\ Row wr (g + 1 + 1) 195 (stC (Sha.foldN k Sha.first pd) 0) /\ Below w.heap.size w wr) (fun s _ => lenV s)
 case atStart => exact ⟨0, A2, c2, by omega, rfl, by omega, hc2, by rw [Nat.mul_zero, List.drop_zero]; exact hrd2, hA2, j2, by rw [HFZ.out]; exact j3, jb⟩
 case round =>
  obtain ⟨k, Ak, ck, hk, rfl, hck, hcm, hrk, hAk, h2, h3, hb⟩ := hrel
  clear hrd2 hA2 j2 j3 jb hc1 hc2
  by_cases hlt : k < m
  ·have hst := foldN_step Sha.first pd k
   have hlen : (pd.drop (64 * k)).length = 64 * (m - k) := by rw [List.length_drop, HM.out]; omega
   obtain ⟨b, o, rfl, _⟩ := hrk.at_ (k := 0) (by omega)
   have hrb := hrk.take 64
   have hB64 : ((pd.drop (64 * k)).take 64).length = 64 := by rw [List.length_take]; omega
   have HST := Lib.hid hst
   have HB64 := Lib.hid hB64
   clear hst hB64
   generalize (pd.drop (64 * k)).take 64 = B at *
   generalize Sha.foldN k Sha.first pd = X at *
   obtain ⟨nk, hnk⟩ : ∃ y, 64 * (m - k) = y := ⟨_, rfl⟩
   rw [hnk] at hlen hck ⊢
   have hnk0 : 64 <= nk := by omega
   have HNK := Lib.hid hnk
   have HLEN := Lib.hid hlen
   clear hnk hlen
   have hsl : ∀ w : World, (Instr.sliceAt 60 (.slice (some ⟨b, o, none⟩) nk ck) none (some (.int .i64 64)) none).run Tryz.prog w = .ok (.slice (some ⟨b, o, none⟩) 64 ck) w :=
    run_slice_upto (k := 64) Tryz.underlying60 (info5 : ByteInfo Tryz.prog 5) (by omega)
   obtain ⟨D, hD, hDr, hDb⟩ := run_slice_from2 (P := Tryz.prog) (A := some ⟨b, o, none⟩) (n := nk) (ca := ck) (k := 64) Tryz.underlying60 (info5 : ByteInfo Tryz.prog 5) hnk0 hck
   have hbne := hAk b o rfl
   have hbne2 : ∀ b' o', D = some ⟨b', o', none⟩ -> b' ≠ g + 1 + 1 := fun b' o' e => by
    obtain ⟨ad', e1, e2⟩ := hDb _ e
    injection e1 with e1
    subst e1
    have e3 : b = b' := e2
    rw [<- e3]; exact hbne
   have hbs := hb.size
   go_wp2_with fail
   refine (wpIn_wide (n := 0)).1 ?_
   refine wpIn_region_last wide_wide [Pr.eq (.agg (stC X 0)), Pr.eq (.slice (some ⟨b, o, none⟩) nk ck), Pr.eq (.slice (some ⟨b, o, none⟩) 64 ck), Pr.eq (.pointer (some ⟨b, o, none⟩)), Pr.eq (.agg (B.map byteV).toArray), Pr.eq (.agg (stC (Sha.blk X B) 0))] (by kernel_rfl) (by kernel_rfl) (by kernel_rfl) (by kernel_rfl) (by kernel_rfl) (by kernel_rfl) rfl ⟨?_, ?_, ?_, ?_, ?_, ?_, trivial⟩ ?_
   ·exact fun ac W hL he => stepOk_want rfl (op_load rfl (he.k 3) (run_load_row (h3.later hL) Tryz.underlying195 rfl (by rw [stC_size]; exact info8)) rfl)
   ·exact fun ac W hL he => stepOk_want rfl (op_move rfl (he.k 4))
   ·exact fun ac W hL he => stepOk_want rfl (op_slice (W' := W) rfl (he.g 1 14) rfl rfl rfl (hsl W) rfl)
   ·exact fun ac W hL he => stepOk_want rfl (op_arr rfl (he.g 2 15) (run_arr64 W) rfl)
   ·exact fun ac W hL he => stepOk_want rfl (op_load rfl (he.g 3 16) (load_rd64 HB64.out (hrb.later hL)) rfl)
   ·intro ac W hL he; refine stepOk_want rfl ?_; have e0 : ac.eval (.tmp 13) = (.agg (stC X 0)) := (he.g 0 13); have e1 : ac.eval (.tmp 17) = (.agg (B.map byteV).toArray) := (he.g 4 17); exact op_callF (vs := #[.agg (stC X 0), .agg (B.map byteV).toArray]) rfl (by simp only [List.map_toArray, List.map_cons, List.map_nil, e0, e1]) (enters_of Tryz.func130 (by kernel_rfl) rfl) ((refPress_any X B W HB64.out).mono fun e W' ⟨he', hb⟩ => ⟨_, he', hb, rfl⟩)
   ·intro xs W hL hx hk hg
    have e2 := hg 5 18 (by decide) (by kernel_rfl)
    have v5 : xs 5 = .agg (stC (Sha.blk X B) 0) := hx 5 (by decide)
    rw [v5] at e2
    have e1 := hk (.tmp 3) (by kernel_rfl)
    obtain ⟨W', hstr, hr', hg'⟩ := run_put_row (P := Tryz.prog) (T := 195) (h3.later hL) (vs := stC (Sha.blk X B) 0) (by rw [stC_size, stC_size]) (by rw [stC_size]; exact info8) (stC_one _ _)
    refine last_store rfl rfl e1 e2 hstr ?_
    clear hx hk hg e1 e2 v5 hstr
    have q2 := (h2.later hL).grown hg' (by intro e; injection e with e; omega)
    have qb := (hb.trans (hL.mono hbs)).grown hg' (by have := hL.size; omega) (fun j e => by cases e; have := HG.out; omega)
    have qr := (hrk.later hL).grown hg' (fun b' o' e _ => by injection e with e; injection e with e1 e2; subst e1; intro h; injection h with h; exact hbne h)
    have qd := hDr W' _ HLEN.out qr
    rw [<- HST.out] at hr'
    simp only [initL, putL, Nat.reduceAdd, Act.put, List.setIfInBounds_toArray, List.set_cons_succ, List.set_cons_zero]
    have hD' : ∀ w : World, (Instr.slice 60 (.slice (some ⟨b, o, none⟩) nk ck) (some (.int .i64 64)) none none).run Tryz.prog w = .ok (.slice D (nk - 64) (ck - 64)) w := hD
    go_wp2_with fail
    go_roundw
    case rel => exact ⟨k + 1, D, ck - 64, by omega, by rw [show nk - 64 = 64 * (m - (k + 1)) from by have := HNK.out; omega], by have := HNK.out; omega, by omega, by rw [show 64 * (k + 1) = 64 * k + 64 from by omega, <- List.drop_drop]; exact qd, fun b' o' e => hbne2 b' o' e, q2, hr', qb⟩
    case measure => simp [lenV]; omega
  ·obtain rfl : k = m := by omega
   rw [Nat.sub_self, Nat.mul_zero]
   have hs32 := hC_size (Sha.sum l) (by rw [Sha.sum_len]; omega)
   have hld := run_load_row (P := Tryz.prog) (T := 195) h3 Tryz.underlying195 rfl (by rw [stC_size]; exact info8)
   have htold := fun W => refTold_any (Sha.foldN k Sha.first pd) W
   have hwg : w.heap.size <= g := by have := HG.out; omega
   rw [<- HS.out] at htold
   have HS32 := Lib.hid hs32
   clear hs32 h3
   generalize Sha.foldN k Sha.first pd = X at *
   obtain ⟨sm, hsm⟩ : ∃ y, y = Sha.sum l := ⟨_, rfl⟩
   rw [<- hsm] at htold HS32
   have HSM := Lib.hid hsm
   clear hsm
   go_wp2_with (first
    | (refine wpList_load rfl 195 (.tmp 3) rfl (.pointer (some ⟨g + 1 + 1, 0, none⟩)) rfl hld ?_)
    | (go_at_call 131; refine (htold _).mono ?_; clear htold; rintro e w7 ⟨rfl, hb7⟩; obtain ⟨W', hst, hr', hg'⟩ := run_put_row (P := Tryz.prog) (T := 25) (h2.belowAll hb7) (vs := hC sm) (by rw [HS32.out]; rfl) (by rw [HS32.out]; exact infoH) (hC_one _))
    | (refine wpList_store rfl 25 (.tmp 2) (.tmp 20) rfl (.pointer (some ⟨g, 0, none⟩)) (.agg (hC sm)) rfl rfl hst ?_)
    | fail)
   refine bodyPost_ret (results_cell_row rfl _ _ g 25 (hC sm) (0, 0) _ rfl hr' Tryz.underlying25 rfl (by rw [HS32.out]; exact infoH)) rfl ⟨by rw [HSM.out], (hb.trans (hb7.mono hb.size)).grown hg' (by have := hb.size; have := Below.size hb7; omega) (fun j e => by cases e; exact hwg)⟩
theorem eqgHash (b : BinOp) (x y : Operand) (xs ys : Array Value) (w : World) : (eqGuard b 25 x y (.agg xs) (.agg ys)).run Tryz.prog w = .ok () w := run_eqGuard_agg w b _ x y xs ys (by kernel_rfl)
theorem RdsW.toC {w0 w : World} {A : Option Addr} {ls : List (List UInt8)} (h : RdsW w0 w A ls) (hL : Later w0 w) : RdsC w A ls := fun hl => by
 obtain ⟨b, o, e, hc⟩ := h hl
 refine ⟨b, o, e, fun i hi => ?_⟩
 obtain ⟨Ai, ci, h1, h2, h3, h4⟩ := hc i hi
 exact ⟨Ai, ci, h1, h2, h3, h4.later hL⟩
theorem RdsW.two {w0 w : World} {A B : Option Addr} {n c m d b : Nat} {l k : List UInt8} (t : TypeId) (hb : w.heap.size = b) (h : Rd w0 A l) (hn : l.length = n) (hc : n <= c) (hcm : c <= 9223372036854775807) (h2 : Rd w0 B k) (hm : k.length = m) (hd : m <= d) (hdm : d <= 9223372036854775807) :
  RdsW w0 (w.alloc (.cells #[.slice A n c, .slice B m d] t)) (some ⟨b, 0, none⟩) [l, k] := fun _ => by
 subst hb hn hm
 refine ⟨_, _, rfl, fun i hi => ?_⟩
 rcases i with _ | _ | i
 ·exact ⟨A, c, ((Row.new w t _).cell 0).trans rfl, hc, hcm, h⟩
 ·exact ⟨B, d, ((Row.new w t _).cell 1).trans rfl, hd, hdm, h2⟩
 ·exact absurd hi (by simp)
section
variable {P : Program} {ops : Array Oper} {rest : List Oper} {o : Oper} {a : Act} {w : World} {Q : Exit -> Act -> World -> Prop}
theorem hm_wpList_slice0 (hgd : o.guard = none) (T : TypeId) (x : Operand) (ho : o.op = .slice T x none none none) (vx : Value) (hx : a.eval x = vx) {v : Value} {w' : World} (hr : (Instr.sliceAt T vx none none none).run P w = .ok v w')
  (h : wpList P ops Q rest (a.put o.dst v) w') : wpList P ops Q (o :: rest) a w :=
 wpList_plain hgd fun _ hK => by
  unfold Oper.wp execOp
  simp only [ho, Sem.run_bind, Sem.run_pure, Result.andThen_ok, Option.map_none, hx, hr]
  exact hK _ _ h
theorem hm_wpList_buildSl (hgd : o.guard = none) (T : TypeId) (n : Nat) (parts : Array (Nat × Operand)) (ho : o.op = .buildSlice T n parts) (vs : Array (Nat × Value)) (hp : (parts.map fun (i, x) => (i, a.eval x)) = vs)
  {v : Value} {w' : World} (hr : (Instr.buildSlice T n vs).run P w = .ok v w')
  (h : wpList P ops Q rest (a.put o.dst v) w') : wpList P ops Q (o :: rest) a w :=
 wpList_plain hgd fun _ hK => by
  unfold Oper.wp execOp
  simp only [ho, Sem.run_bind, Sem.run_pure, Result.andThen_ok, hp, hr]
  exact hK _ _ h
end
theorem hm_sliceHash {g : Nat} (W : World) : (Instr.sliceAt 25 (.pointer (some ⟨g, 0, none⟩)) none none none).run Tryz.prog W = .ok (.slice (some ⟨g, 0, none⟩) 32 32) W := by
 obtain ⟨i, hi0, hz, hs, hb⟩ := info_parts info5
 simp [Instr.sliceAt, run_underlying Tryz.underlying25, sizeOf, typeInfo, hi0, hs, go_sem]
theorem hm_build1S (A : Option Addr) (n c : Nat) (W : World) : (Instr.buildSlice 142 1 #[(0, .slice A n c)]).run Tryz.prog W = .ok (.slice (some ⟨W.heap.size, 0, none⟩) 1 1) (W.alloc (.cells #[.slice A n c] 60)) := by kernel_rfl
theorem byteInfo8 : ByteInfo Tryz.prog 5 := info5
theorem sum_at (A : Option Addr) (n cap : Nat) (l h : List UInt8) (t : TypeId) (w : World) (hr : Rd w A l) (hn : l.length = n) (hc : n <= cap) (hm : cap <= 9223372036854775807) (hmax : n <= 1000000000) (hh : Sha.sum l = h) :
  Calls Tryz.prog 155 #[.slice (some ⟨w.heap.size, 0, none⟩) 1 1] (w.alloc (.cells #[.slice A n cap] t)) fun e w' => e = .returned (.agg (hC h)) /\ Below (w.heap.size + 1) (w.alloc (.cells #[.slice A n cap] t)) w' := by
 have := shaSum_any (some ⟨w.heap.size, 0, none⟩) 1 1 [l] (w.alloc (.cells #[.slice A n cap] t)) rfl (by decide) (by simp only [List.flatten_cons, List.flatten_nil, List.append_nil]; omega) (RdsC.one t rfl hr hn hc hm)
 simp only [List.flatten_cons, List.flatten_nil, List.append_nil, hh, World.size_alloc] at this
 exact this
end Go.Proofs.YtloiaaolnfimgaaGreat
namespace Go.Proofs.YtloiaaolnfimgaaGreat
open Go.RowKit Go.ChangeShapes Go.WideShapes Go.ChangeAt
theorem rd_row {w : World} {g : Nat} {t : TypeId} {l : List UInt8} (h : Row w g t (l.map byteV).toArray) : Rd w (some ⟨g, 0, none⟩) l := fun _ =>
 ⟨g, 0, rfl, fun i hi => by rw [h.cell, Nat.zero_add, bytes_get l i hi]⟩
end Go.Proofs.YtloiaaolnfimgaaGreat
namespace Go.Proofs.YtloiaaolnfimgaaGreat
open Go.RowKit
theorem RdsC.three {w : World} {A B C : Option Addr} {n c m d q e b : Nat} {l k p : List UInt8} (t : TypeId) (hb : w.heap.size = b) (h : Rd w A l) (hn : l.length = n) (hc : n <= c) (hcm : c <= 9223372036854775807) (h2 : Rd w B k) (hm : k.length = m) (hd : m <= d) (hdm : d <= 9223372036854775807)
  (h3 : Rd w C p) (hq : p.length = q) (he : q <= e) (hem : e <= 9223372036854775807) : RdsC (w.alloc (.cells #[.slice A n c, .slice B m d, .slice C q e] t)) (some ⟨b, 0, none⟩) [l, k, p] := fun _ => by
 subst hb hn hm hq
 refine ⟨_, _, rfl, fun i hi => ?_⟩
 rcases i with _ | _ | _ | i
 ·exact ⟨A, c, ((Row.new w t _).cell 0).trans rfl, hc, hcm, h.alloc _⟩
 ·exact ⟨B, d, ((Row.new w t _).cell 1).trans rfl, hd, hdm, h2.alloc _⟩
 ·exact ⟨C, e, ((Row.new w t _).cell 2).trans rfl, he, hem, h3.alloc _⟩
 ·exact absurd hi (by simp)
end Go.Proofs.YtloiaaolnfimgaaGreat
namespace Go.Proofs.YtloiaaolnfimgaaGreat.Hm
def short (key : List UInt8) : List UInt8 := if 64 < key.length then Sha.sum key else key
theorem short_le (key : List UInt8) : (short key).length <= 64 := by
 unfold short
 split
 ·rw [Sha.sum_len]; omega
 ·omega
def pad (key : List UInt8) : List UInt8 := short key ++ Sha.zeros (64 - (short key).length)
theorem pad_len (key : List UInt8) : (pad key).length = 64 := by
 have := short_le key
 simp only [pad, List.length_append, Sha.zeros, List.length_replicate]
 omega
def turn (c : UInt8) (b : List UInt8) : List UInt8 := b.map (· ^^^ c)
theorem turn_len (c : UInt8) (b : List UInt8) : (turn c b).length = b.length := by simp [turn]
def tag (key msg : List UInt8) : List UInt8 := Sha.sum (turn 92 (pad key) ++ Sha.sum (turn 54 (pad key) ++ msg))
theorem tag_len (key msg : List UInt8) : (tag key msg).length = 32 := Sha.sum_len _
def tags (key name : List UInt8) : Nat -> List UInt8
 | 0 => []
 | i + 1 => tag key (tags key name i ++ name ++ [UInt8.ofNat (i + 1)])
theorem tags_len (key name : List UInt8) (i : Nat) : (tags key name (i + 1)).length = 32 := tag_len _ _
def all (key name : List UInt8) : Nat -> List UInt8
 | 0 => []
 | i + 1 => all key name i ++ tags key name (i + 1)
theorem all_len (key name : List UInt8) : ∀ i, (all key name i).length = 32 * i
 | 0 => rfl
 | i + 1 => by rw [all, List.length_append, all_len key name i, tags_len]; omega
theorem all_take (key name : List UInt8) (i j : Nat) : (all key name (i + j)).take (32 * i) = all key name i := by
 induction j with
 | zero => rw [Nat.add_zero, List.take_of_length_le (by rw [all_len]; omega)]
 | succ j ih => rw [<- Nat.add_assoc, all, List.take_append_of_le_length (by rw [all_len]; omega), ih]
def expand (key name : List UInt8) (n : Nat) : List UInt8 := (all key name ((n + 31) / 32)).take n
theorem expand_len (key name : List UInt8) (n : Nat) : (expand key name n).length = n := by
 rw [expand, List.length_take, all_len]; omega
theorem expand_of (key name : List UInt8) (n i : Nat) (h : n <= 32 * i) : (all key name i).take n = expand key name n := by
 obtain ⟨j, rfl⟩ : ∃ j, i = (n + 31) / 32 + j := ⟨i - (n + 31) / 32, by omega⟩
 rw [expand, <- all_take key name ((n + 31) / 32) j, List.take_take, Nat.min_eq_left (by omega)]
end Go.Proofs.YtloiaaolnfimgaaGreat.Hm
namespace Go.Proofs.YtloiaaolnfimgaaGreat
open Go.RowKit
def aB (l : List UInt8) : Array Value := (l.map byteV).toArray
theorem aB_size (l : List UInt8) : (aB l).size = l.length := by simp [aB]
theorem aB_one (l : List UInt8) : (aB l).all (·.oneCell') = true := by
 rw [Array.all_eq_true_iff_forall_mem]
 intro v hv
 unfold aB at hv
 rw [List.mem_toArray] at hv
 obtain ⟨i, hi, rfl⟩ := List.mem_map.1 hv
 rfl
theorem infoK : (Tryz.prog.info? 222).map (·.size) = some 64 := by kernel_rfl
theorem infoKl {l : List UInt8} (h : l.length = 64) : (Tryz.prog.info? 222).map (·.size) = some (aB l).size := by rw [aB_size, h]; exact infoK
theorem allocK (w : World) : (Instr.alloc 222 true (.tuple #[])).run Tryz.prog w = .ok (.pointer (some ⟨w.heap.size, 0, none⟩)) (w.alloc (.cells (aB (Sha.zeros 64)) 222)) := by kernel_rfl
theorem sliceK {g : Nat} (W : World) : (Instr.sliceAt 222 (.pointer (some ⟨g, 0, none⟩)) none none none).run Tryz.prog W = .ok (.slice (some ⟨g, 0, none⟩) 64 64) W := by
 obtain ⟨i, hi0, hz, hs, hb⟩ := info_parts info5
 simp [Instr.sliceAt, run_underlying Tryz.underlying222, sizeOf, typeInfo, hi0, hs, go_sem]
theorem setFrom_aB (z l : List UInt8) (h : l.length <= z.length) : setFrom (aB z) 0 (l.map byteV) = aB (l ++ z.drop l.length) := by
 have e : aB z = ([] ++ ((z.take l.length).map byteV ++ (z.drop l.length).map byteV)).toArray := by
  rw [List.nil_append, <- List.map_append, List.take_append_drop]; rfl
 rw [e, setFrom_mid [] _ _ _ 0 rfl (by simp; omega), List.nil_append, <- List.map_append]
 rfl
theorem loadK {w : World} {g : Nat} {t : TypeId} {l : List UInt8} (hl : l.length = 64) (hr : Row w g t (aB l)) : (Instr.loadAt 222 (.pointer (some ⟨g, 0, none⟩))).run Tryz.prog w = .ok (.agg (aB l)) w :=
 run_load_row hr Tryz.underlying222 rfl (infoKl hl)
theorem boxK {l : List UInt8} (hl : l.length = 64) (w : World) : (Instr.box 222 (.agg (aB l))).run Tryz.prog w = .ok (.pointer (some ⟨w.heap.size, 0, none⟩)) (w.alloc (.cells (aB l) 222)) :=
 run_box_row w _ _ (infoKl hl)
theorem hm_of_any (A : Option Addr) (n ca : Nat) (key : List UInt8) (w : World) (hn : key.length = n) (hc : n <= ca) (hcm : ca <= 9223372036854775807) (hm : n <= 1000000) (hr : Rd w A key) :
  Calls Tryz.prog 150 #[.slice A n ca] w fun e w' => e = .returned (.agg (aB (Hm.pad key))) /\ Below w.heap.size w w' := by
 have hal := fun W => allocK W
 have hz64 : (Sha.zeros 64).length = 64 := List.length_replicate
 have hsh := Hm.short_le key
 have hpad : Hm.short key ++ (Sha.zeros 64).drop (Hm.short key).length = Hm.pad key := by
  rw [Hm.pad]
  congr 1
  unfold Sha.zeros
  rw [List.drop_replicate]
 generalize Sha.zeros 64 = z0 at *
 have hrow := Row.new w 222 (aB z0)
 have hb0 := below_new w (.cells (aB z0) 222)
 have HAL := Lib.hid hal
 clear hal
 have hpl := Hm.pad_len key
 have HPL := Lib.hid hpl
 have HPAD := Lib.hid hpad
 have HN := Lib.hid hn
 have HZ := Lib.hid hz64
 clear hpl hpad hz64
 obtain ⟨g, hg⟩ : ∃ q, q = w.heap.size := ⟨_, rfl⟩
 have hgl := hrow.lt
 by_cases h64 : 64 < n
 ·have hd : decide (64 < n) = true := by simpa using h64
  have hd' : decide ((64 : Int) < (n : Int)) = true := by simp; omega
  obtain ⟨H, hH⟩ : ∃ H, Sha.sum key = H := ⟨_, rfl⟩
  have hHl : H.length = 32 := by rw [<- hH]; exact Sha.sum_len _
  have hsk : Hm.short key = H := by rw [<- hH]; exact if_pos (by omega)
  rw [hsk] at HPAD hsh
  have hcall := sum_at A n ca key H 60 (w.alloc (.cells (aB z0) 222)) (hr.below hb0) hn hc hcm (by omega) hH
  have HHL := Lib.hid hHl
  have hnew := below_new (w.alloc (.cells (aB z0) 222)) (.cells #[.slice A n ca] 60)
  clear hH hHl hsk hn
  go_enter Tryz.func150, Tryz.ntmps150
  go_upto_region 1 with (first
   | (with_reducible refine wpList_alloc rfl 222 rfl (HAL.out _) ?_)
   | fail)
  have hw1s : w.heap.size < (w.alloc (.cells (aB z0) 222)).heap.size := by simp only [World.size_alloc]; omega
  have hgle : w.heap.size <= g := by omega
  rw [<- hg] at hrow ⊢
  clear hg hgl
  generalize w.alloc (.cells (aB z0) 222) = w1 at *
  clear HAL
  go_upto_region 3 with (first
   | (refine hm_wpList_buildSl rfl 142 1 _ rfl #[(0, .slice A n ca)] rfl (hm_build1S _ _ _ _) ?_)
   | (go_at_call 155; refine hcall.mono ?_; rintro e w2 ⟨rfl, hb2⟩; obtain ⟨w3, hst, hr3, hg3⟩ := storeH (a := []) (b := H) (by simp) (by rw [HHL.out]; omega) (Row.new w2 25 (hC [])))
   | (with_reducible refine wpList_alloc rfl 25 rfl (allocH _) ?_)
   | (refine wpList_store rfl 25 (.tmp 3) (.tmp 9) rfl (.pointer (some ⟨w2.heap.size, 0, none⟩)) (.agg (hC H)) rfl rfl hst ?_)
   | fail)
  have hL2 : Later w1 w2 := Below.trans hnew (hb2.mono (by omega))
  have hL3 : Later w1 w3 := Below.grown (hL2.alloc _) hg3 (by have := hL2.size; have h9 := World.size_alloc w2 (.cells (hC []) 25); omega) (fun j e => by cases e; exact hL2.size)
  have hrow3 := hrow.later hL3
  have hb3 : Below w.heap.size w w3 := hb0.trans (hL3.mono hb0.size)
  obtain ⟨gh, hgh⟩ : ∃ q, q = w2.heap.size := ⟨_, rfl⟩
  rw [<- hgh] at hr3 ⊢
  have hrh := rd_hash HHL.out hr3
  clear hcall hst hg3 hL2 hL3 hb2 hgh hnew hrow hb0 hr3 hw1s
  go_wp2_with (first
   | (refine hm_wpList_slice0 rfl 25 (.tmp 3) rfl (.pointer (some ⟨gh, 0, none⟩)) rfl (hm_sliceHash _) ?_)
   | (refine hm_wpList_slice0 rfl 222 (.tmp 2) rfl (.pointer (some ⟨g, 0, none⟩)) rfl (sliceK _) ?_)
   | (refine wpList_copy_rd rfl (.tmp 11) (.tmp 12) 60 60 rfl 5 Tryz.underlying60 (by kernel_rfl) g 0 64 64 (some ⟨gh, 0, none⟩) 32 32 H HHL.out hrh (by rfl) (by rfl) _ _ hrow3 32 rfl (by rw [aB_size, HZ.out]; decide) ?_; intro w5 hr5 hg5; rw [List.take_of_length_le (by rw [HHL.out]; omega), setFrom_aB _ _ (by rw [HZ.out]; exact hsh), HPAD.out] at hr5; obtain ⟨w6, hst6, hr6, hg6⟩ := run_put_row (P := Tryz.prog) (T := 222) hr5 (vs := aB (Hm.pad key)) rfl (infoKl HPL.out) (aB_one _))
   | (refine wpList_load rfl 222 (.tmp 2) rfl (.pointer (some ⟨g, 0, none⟩)) rfl (loadK HPL.out hr5) ?_)
   | (refine wpList_store rfl 222 (.tmp 2) (.tmp 14) rfl (.pointer (some ⟨g, 0, none⟩)) (.agg (aB (Hm.pad key))) rfl rfl hst6 ?_)
   | fail)
  refine bodyPost_ret (results_cell_row rfl _ _ g 222 (aB (Hm.pad key)) (0, 0) _ rfl hr6 Tryz.underlying222 rfl (infoKl HPL.out)) rfl ⟨rfl, (hb3.grown hg5 hb3.size (fun j e => by cases e; exact hgle)).grown hg6 (by have h1 := hb3.size; have h2 := hg5.size; omega) (fun j e => by cases e; exact hgle)⟩
 ·have hd : decide (64 < n) = false := by simpa using h64
  have hd' : decide ((64 : Int) < (n : Int)) = false := by simp; omega
  have hsk : Hm.short key = key := if_neg (by omega)
  rw [hsk] at HPAD hsh
  have hr1 := hr.below hb0
  have hgle : w.heap.size <= g := by omega
  have hn64 : min n 64 = n := by omega
  have hn64' : 0 + n <= 64 := by omega
  rw [<- hg] at hrow
  clear hsk
  go_enter Tryz.func150, Tryz.ntmps150
  go_upto_region 1 with (first
   | (with_reducible refine wpList_alloc rfl 222 rfl (HAL.out _) ?_)
   | fail)
  rw [<- hg]
  clear hg hgl
  generalize w.alloc (.cells (aB z0) 222) = w1 at *
  clear HAL
  go_wp2_with (first
   | (refine hm_wpList_slice0 rfl 222 (.tmp 2) rfl (.pointer (some ⟨g, 0, none⟩)) rfl (sliceK _) ?_)
   | (refine wpList_copy_rd rfl (.tmp 11) (.tmp 12) 60 60 rfl 5 Tryz.underlying60 (by kernel_rfl) g 0 64 64 A n ca key HN.out hr1 (by rfl) (by rfl) _ _ hrow n hn64 (by rw [aB_size, HZ.out]; exact hn64') ?_; intro w5 hr5 hg5; rw [List.take_of_length_le (by rw [HN.out]; omega), setFrom_aB _ _ (by rw [HZ.out]; exact hsh), HPAD.out] at hr5; obtain ⟨w6, hst6, hr6, hg6⟩ := run_put_row (P := Tryz.prog) (T := 222) hr5 (vs := aB (Hm.pad key)) rfl (infoKl HPL.out) (aB_one _))
   | (refine wpList_load rfl 222 (.tmp 2) rfl (.pointer (some ⟨g, 0, none⟩)) rfl (loadK HPL.out hr5) ?_)
   | (refine wpList_store rfl 222 (.tmp 2) (.tmp 14) rfl (.pointer (some ⟨g, 0, none⟩)) (.agg (aB (Hm.pad key))) rfl rfl hst6 ?_)
   | fail)
  refine bodyPost_ret (results_cell_row rfl _ _ g 222 (aB (Hm.pad key)) (0, 0) _ rfl hr6 Tryz.underlying222 rfl (infoKl HPL.out)) rfl ⟨rfl, (hb0.grown hg5 hb0.size (fun j e => by cases e; exact hgle)).grown hg6 (by have h1 := hb0.size; have h2 := hg5.size; omega) (fun j e => by cases e; exact hgle)⟩
theorem by_any (c : UInt8) (w : World) :
  Calls Tryz.prog 152 #[.int .u8 (c.toNat : Int)] w fun e w' => ∃ g, e = .returned (.func (.func 177) #[] #[.pointer (some ⟨g, 0, none⟩)]) /\ Row w' g 5 #[.int .u8 (c.toNat : Int)] /\ Later w w' := by
 go_enter Tryz.func152, Tryz.ntmps152
 go_wp2
 go_ret
 exact ⟨_, rfl, Row.new w _ _, (Later.refl w).alloc _⟩
theorem xor8 (a c : UInt8) (W : World) : (binOp .xor 5 (.int .u8 (a.toNat : Int)) (.int .u8 (c.toNat : Int))).run Tryz.prog W = .ok (.int .u8 ((a ^^^ c).toNat : Int)) W := by
 go_simp
 rw [u8_xor_nat _ _ a.toNat_lt c.toNat_lt]
theorem idxBl {b j : Nat} {W : World} (h : j < 64) : (Instr.indexAt 222 (.pointer (some ⟨b, 0, none⟩)) (.int .i64 (j : Int))).run Tryz.prog W = .ok (.pointer (some ⟨b, j, none⟩)) W := by
 have h1 : (j : Int) < 64 := by omega
 go_simp
theorem store8 {b o : Nat} {x : UInt8} {v : Value} {W : World} (hc : W.cell? ⟨b, o, none⟩ = some v) (hf : W.frozen? ⟨b, o, none⟩ = false) : (Instr.storeAt 5 (.pointer (some ⟨b, o, none⟩)) (.int .u8 (x.toNat : Int))).run Tryz.prog W = .ok () (W.setCell ⟨b, o, none⟩ (byteV x)) := by
 go_simp
def tk (c : UInt8) (b : List UInt8) (k : Nat) : List UInt8 := Hm.turn c (b.take k) ++ b.drop k
theorem tk_get (c : UInt8) (b : List UInt8) (k : Nat) (h : k < b.length) : (aB (tk c b k))[k]? = some (.int .u8 (b[k].toNat : Int)) := by
 have h1 : (tk c b k)[k]? = some b[k] := by
  rw [tk, List.getElem?_append_right (by simp [Hm.turn]; omega)]
  have e : k - (Hm.turn c (b.take k)).length = 0 := by simp [Hm.turn]; omega
  rw [e, List.getElem?_drop, Nat.add_zero, List.getElem?_eq_getElem h]
 rw [aB, List.getElem?_toArray, List.getElem?_map, h1]
 rfl
theorem tk_set (c : UInt8) (b : List UInt8) (k : Nat) (h : k < b.length) : (aB (tk c b k)).setIfInBounds k (byteV (b[k] ^^^ c)) = aB (tk c b (k + 1)) := by
 have e1 : tk c b k = Hm.turn c (b.take k) ++ (b[k] :: b.drop (k + 1)) := by rw [tk, <- List.drop_eq_getElem_cons h]
 have e2 : tk c b (k + 1) = Hm.turn c (b.take k) ++ ((b[k] ^^^ c) :: b.drop (k + 1)) := by
  rw [tk, List.take_succ_eq_append_getElem h, Hm.turn, Hm.turn, List.map_append, List.append_assoc]
  rfl
 have hl : ((Hm.turn c (b.take k)).map byteV).length = k := by simp [Hm.turn]; omega
 rw [e1, e2, aB, aB, List.map_append, List.map_append, List.map_cons, List.map_cons, List.setIfInBounds_toArray, List.set_append_right _ _ (by omega), hl, Nat.sub_self]
 rfl
theorem tk_zero (c : UInt8) (b : List UInt8) : tk c b 0 = b := by simp [tk, Hm.turn]
theorem tk_all (c : UInt8) (b : List UInt8) (n : Nat) (h : b.length <= n) : tk c b n = Hm.turn c b := by
 rw [tk, List.take_of_length_le h, List.drop_eq_nil_of_le h, List.append_nil]
theorem by1_any (b : List UInt8) (c : UInt8) (gc : Nat) (w : World) (hb : b.length = 64) (hgc : w.cell? ⟨gc, 0, none⟩ = some (.int .u8 (c.toNat : Int))) :
  Calls Tryz.prog 177 #[.agg (aB b), .pointer (some ⟨gc, 0, none⟩)] w fun e w' => ∃ g, e = .returned (.slice (some ⟨g, 0, none⟩) 64 64) /\ Rd w' (some ⟨g, 0, none⟩) (Hm.turn c b) /\ w.heap.size <= g /\ Later w w' := by
 have hrow := Row.new w 222 (aB b)
 have hL0 := (Later.refl w).alloc (.cells (aB b) 222)
 have hz := tk_zero c b
 have HZ := Lib.hid hz
 have HB := Lib.hid hb
 have hbl := block_lt_of_cell hgc
 clear hz hb
 go_enter Tryz.func177, Tryz.ntmps177
 go_wp2_with (first
  | (refine wpList_box rfl 222 (.tmp 0) rfl (.agg (aB b)) rfl (boxK HB.out _) ?_)
  | fail)
 obtain ⟨g, hg⟩ : ∃ q, q = w.heap.size := ⟨_, rfl⟩
 rw [<- hg] at hrow ⊢
 have hgle : w.heap.size <= g := by omega
 have HG := Lib.hid hg
 clear hg
 generalize hw1 : w.alloc (.cells (aB b) 222) = w1 at *
 clear hw1
 go_loopw [5] (fun t wr => ∃ k : Nat, k <= 64 /\ t = .int .i64 k /\ Row wr g 222 (aB (tk c b k)) /\ Later w wr) (fun t _ => 64 - (intOf t).toNat)
 case atStart => exact ⟨0, by omega, rfl, by rw [HZ.out]; exact hrow, hL0⟩
 case round =>
  obtain ⟨k, hk, rfl, hr, hL⟩ := hrel
  clear hrow hL0
  by_cases hlt : k < 64
  ·have hkb : k < b.length := by rw [HB.out]; exact hlt
   have hck := (hr.cell k).trans (tk_get c b k hkb)
   have hset := tk_set c b k hkb
   have hgc' := hL.cell hgc
   obtain ⟨x, hx⟩ : ∃ x, b[k] = x := ⟨_, rfl⟩
   rw [hx] at hck hset
   have HSET := Lib.hid hset
   clear hset hx
   go_upto_region 4 with fail
   refine (wpIn_wide (n := 0)).1 ?_
   refine wpIn_region_last wide_wide [Pr.eq (.int .i64 (k : Int)), Pr.eq (.pointer (some ⟨g, k, none⟩)), Pr.eq (.int .u8 (x.toNat : Int)), Pr.eq (.int .u8 (c.toNat : Int)), Pr.eq (.int .u8 ((x ^^^ c).toNat : Int)), Pr.eq (.pointer (some ⟨g, k, none⟩))] (by kernel_rfl) (by kernel_rfl) (by kernel_rfl) (by kernel_rfl) (by kernel_rfl) (by kernel_rfl) rfl ⟨?_, ?_, ?_, ?_, ?_, ?_, trivial⟩ ?_
   ·exact fun ac W hL he => stepOk_want rfl (op_move rfl (he.k 4))
   ·exact fun ac W hL he => stepOk_want rfl (op_idx rfl (he.k 2) (he.g 0 8) (idxBl hlt) rfl)
   ·exact fun ac W hL he => stepOk_want rfl (op_load rfl (he.g 1 9) (load8 (hL.cell hck)) rfl)
   ·exact fun ac W hL he => stepOk_want rfl (op_load rfl (he.k 1) (load8 (hL.cell hgc')) rfl)
   ·exact fun ac W hL he => stepOk_want rfl (op_binOp rfl (he.g 2 10) (he.g 3 11) eqg_xor (xor8 x c W) rfl)
   ·exact fun ac W hL he => stepOk_want rfl (op_idx rfl (he.k 2) (he.g 0 8) (idxBl hlt) rfl)
   ·intro xs W hL2 hx hk2 hg2
    have e1 := hg2 5 13 (by decide) (by kernel_rfl)
    have e2 := hg2 4 12 (by decide) (by kernel_rfl)
    have v5 : xs 5 = .pointer (some ⟨g, k, none⟩) := hx 5 (by decide)
    have v4 : xs 4 = .int .u8 ((x ^^^ c).toNat : Int) := hx 4 (by decide)
    rw [v5] at e1
    rw [v4] at e2
    have hr2 := hr.later hL2
    refine last_store rfl rfl e1 e2 (store8 (hL2.cell hck) (hr2.frozen k)) ?_
    have hr3 := hr2.set k (byteV (x ^^^ c))
    rw [HSET.out] at hr3
    have hL3 : Later w (W.setCell ⟨g, k, none⟩ (byteV (x ^^^ c))) := Below.setCell (hL.step hL2) (p := ⟨g, k, none⟩) hgle _
    clear hx hk2 hg2 e1 e2 v4 v5 hr2 hck hgc'
    simp only [initL, lastL, putL, Nat.reduceAdd, Act.put, List.setIfInBounds_toArray, List.set_cons_succ, List.set_cons_zero]
    go_wp2_with fail
    go_roundw
    case rel => exact ⟨k + 1, by omega, by go_num, hr3, hL3⟩
    case measure => simp [intOf]; omega
  ·obtain rfl : k = 64 := by omega
   rw [tk_all c b 64 (by rw [HB.out]; omega)] at hr
   go_wp2_with (first
    | (refine hm_wpList_slice0 rfl 222 (.tmp 2) rfl (.pointer (some ⟨g, 0, none⟩)) rfl (sliceK _) ?_)
    | fail)
   go_ret
   exact ⟨g, rfl, rd_row hr, hgle, hL⟩
def macC (gr : Nat) (kb : List UInt8) : Array Value := (.pointer (some ⟨gr, 0, none⟩) :: kb.map byteV).toArray
theorem macC_size (gr : Nat) (kb : List UInt8) : (macC gr kb).size = kb.length + 1 := by simp [macC]
theorem infoM : (Tryz.prog.info? 225).map (·.size) = some 65 := by kernel_rfl
theorem infoMl {gr : Nat} {kb : List UInt8} (h : kb.length = 64) : (Tryz.prog.info? 225).map (·.size) = some (macC gr kb).size := by rw [macC_size, h]; exact infoM
theorem aB_range (l : List UInt8) (n : Nat) (h : l.length = n) : aB l = ((List.range n).map fun i => byteV (l.getD i 0)).toArray := by
 unfold aB
 apply congrArg List.toArray
 apply List.ext_getElem (by simp [h])
 intro i h1 h2
 rw [List.length_map] at h1
 simp [List.getD_eq_getElem?_getD, List.getElem?_eq_getElem h1]
theorem macC_range (gr : Nat) (l : List UInt8) (h : l.length = 64) : macC gr l = (.pointer (some ⟨gr, 0, none⟩) :: (List.range 64).map fun i => byteV (l.getD i 0)).toArray := by
 unfold macC
 have := congrArg Array.toList (aB_range l 64 h)
 unfold aB at this
 rw [show l.map byteV = (List.range 64).map fun i => byteV (l.getD i 0) from this]
theorem buildSum (gr : Nat) (w : World) : (Instr.build 221 #[(0, .pointer (some ⟨gr, 0, none⟩))]).run Tryz.prog w = .ok (.agg #[.pointer (some ⟨gr, 0, none⟩)]) w := by kernel_rfl
theorem buildMac0 (gr : Nat) (f : Nat -> UInt8) (w : World) : (Instr.build 225 #[(0, .agg #[.pointer (some ⟨gr, 0, none⟩)]), (1, .agg ((List.range 64).map fun i => byteV (f i)).toArray)]).run Tryz.prog w = .ok (.agg (.pointer (some ⟨gr, 0, none⟩) :: (List.range 64).map fun i => byteV (f i)).toArray) w := by kernel_rfl
theorem buildMac (gr : Nat) (l : List UInt8) (h : l.length = 64) (w : World) : (Instr.build 225 #[(0, .agg #[.pointer (some ⟨gr, 0, none⟩)]), (1, .agg (aB l))]).run Tryz.prog w = .ok (.agg (macC gr l)) w := by
 rw [aB_range l 64 h, macC_range gr l h]
 exact buildMac0 gr _ w
theorem boxM (gr : Nat) (l : List UInt8) (h : l.length = 64) (w : World) : (Instr.box 225 (.agg (macC gr l))).run Tryz.prog w = .ok (.pointer (some ⟨w.heap.size, 0, none⟩)) (w.alloc (.cells (macC gr l) 225)) :=
 run_box_row w _ _ (infoMl h)
theorem fieldM0 {b : Nat} {W : World} : (Instr.fieldAt 225 (.pointer (some ⟨b, 0, none⟩)) 0).run Tryz.prog W = .ok (.pointer (some ⟨b, 0, none⟩)) W := by go_simp
theorem fieldM1 {b : Nat} {W : World} : (Instr.fieldAt 225 (.pointer (some ⟨b, 0, none⟩)) 1).run Tryz.prog W = .ok (.pointer (some ⟨b, 1, none⟩)) W := by go_simp
theorem fieldS0 {b : Nat} {W : World} : (Instr.fieldAt 221 (.pointer (some ⟨b, 0, none⟩)) 0).run Tryz.prog W = .ok (.pointer (some ⟨b, 0, none⟩)) W := by go_simp
theorem loadRun {b o : Nat} {v : Option Addr} {W : World} (hc : W.cell? ⟨b, o, none⟩ = some (.pointer v)) : (Instr.loadAt 218 (.pointer (some ⟨b, o, none⟩))).run Tryz.prog W = .ok (.pointer v) W := by
 go_simp
theorem mac_run {w : World} {g gr : Nat} {l : List UInt8} (h : Row w g 225 (macC gr l)) : w.cell? ⟨g, 0, none⟩ = some (.pointer (some ⟨gr, 0, none⟩)) := (h.cell 0).trans rfl
theorem mac_key {w : World} {g gr : Nat} {l : List UInt8} (hl : l.length = 64) (h : Row w g 225 (macC gr l)) : (Instr.loadAt 222 (.pointer (some ⟨g, 1, none⟩))).run Tryz.prog w = .ok (.agg (aB l)) w :=
 run_load_part h (fun j _ => by
  simp only [macC, aB, List.getElem?_toArray]
  rw [Nat.add_comm 1 j, List.getElem?_cons_succ]) Tryz.underlying222 rfl (infoKl hl)
structure IsMac (w : World) (g gr : Nat) (key msg : List UInt8) : Prop where
 ne : g ≠ gr
 row : Row w g 225 (macC gr (Hm.pad key))
 run : IsRun w gr (Hm.turn 54 (Hm.pad key) ++ msg)
theorem IsMac.later {w w' : World} {g gr : Nat} {key msg : List UInt8} (h : IsMac w g gr key msg) (hL : Later w w') : IsMac w' g gr key msg := ⟨h.ne, h.row.later hL, h.run.later hL⟩
def Pr.fnBy (c : UInt8) : Pr := ⟨fun v W => ∃ gc, v = .func (.func 177) #[] #[.pointer (some ⟨gc, 0, none⟩)] /\ W.cell? ⟨gc, 0, none⟩ = some (.int .u8 (c.toNat : Int)), fun _ _ _ ⟨g, e, h⟩ hL => ⟨g, e, hL.cell h⟩⟩
def Pr.sl (b n : Nat) (l : List UInt8) : Pr := ⟨fun v W => ∃ g, v = .slice (some ⟨g, 0, none⟩) n n /\ b <= g /\ Rd W (some ⟨g, 0, none⟩) l, fun _ _ _ ⟨g, e, h0, h⟩ hL => ⟨g, e, h0, h.later hL⟩⟩
def Pr.rowsC (n : Nat) (ls : List (List UInt8)) : Pr := ⟨fun v W => ∃ g, v = .slice (some ⟨g, 0, none⟩) n n /\ RdsC W (some ⟨g, 0, none⟩) ls, fun _ _ _ ⟨g, e, h⟩ hL => ⟨g, e, h.below hL⟩⟩
theorem by_at (c : UInt8) (z : Int) (hz : z = (c.toNat : Int)) (w : World) :
  Calls Tryz.prog 152 #[.int .u8 z] w fun e w' => ∃ v, e = .returned v /\ Later w w' /\ (Pr.fnBy c).R v w' := by
 subst hz
 exact (by_any c w).mono fun e w' ⟨g, he, hr, hL⟩ => ⟨_, he, hL, g, rfl, (hr.cell 0).trans rfl⟩
theorem none_mac (g gr : Nat) (key msg : List UInt8) (w : World) (h : IsMac w g gr key msg) : Calls Tryz.prog 153 #[.pointer (some ⟨g, 0, none⟩)] w fun e w' => e = .returned (.bool false) /\ w = w' := by
 have hc := mac_run h.row
 clear h
 go_enter Tryz.func153, Tryz.ntmps153
 go_wp2
 go_ret
 exact ⟨rfl, rfl⟩
theorem newMac_any (A : Option Addr) (n ca : Nat) (key : List UInt8) (w : World) (hn : key.length = n) (hc : n <= ca) (hcm : ca <= 9223372036854775807) (hm : n <= 1000000) (hr : Rd w A key) :
  Calls Tryz.prog 118 #[.slice A n ca] w fun e w' => ∃ g gr, e = .returned (.pointer (some ⟨g, 0, none⟩)) /\ IsMac w' g gr key [] /\ w.heap.size <= g /\ w.heap.size <= gr /\ Later w w' := by
 have hpl := Hm.pad_len key
 have hpo := fun W (hL : Later w W) => hm_of_any A n ca key W hn hc hcm hm (hr.later hL)
 generalize hkb : Hm.pad key = kb at *
 have HPL := Lib.hid hpl
 have HKB := Lib.hid hkb
 have HPO := Lib.hid hpo
 clear hpl hkb hpo hn
 go_enter Tryz.func118, Tryz.ntmps118
 go_upto_region 2 with (first
  | (go_at_call 149; refine (new_any _).mono ?_; rintro e w1 ⟨gr, rfl, hrun, hgr, hb1⟩)
  | (refine wpList_build1 rfl 221 0 (.tmp 4) rfl (.pointer (some ⟨gr, 0, none⟩)) rfl (buildSum gr _) ?_)
  | (go_at_call 150; refine (HPO.out _ hb1).mono ?_; rintro e w2 ⟨rfl, hb2⟩)
  | (refine wpList_buildC rfl 225 _ rfl #[(0, .agg #[.pointer (some ⟨gr, 0, none⟩)]), (1, .agg (aB kb))] (by first | rfl | kernel_rfl) (buildMac gr kb HPL.out _) ?_)
  | (refine wpList_box rfl 225 (.tmp 8) rfl (.agg (macC gr kb)) rfl (boxM gr kb HPL.out _) ?_)
  | fail)
 have hL2 : Later w w2 := Later.step hb1 hb2
 have hrun2 := (hrun.later hb2).later ((Later.refl w2).alloc (.cells (macC gr kb) 225))
 have hgl := (hrun.later hb2).lt
 obtain ⟨g, hg⟩ : ∃ q, q = w2.heap.size := ⟨_, rfl⟩
 have hrow : Row (w2.alloc (.cells (macC gr kb) 225)) g 225 (macC gr kb) := by rw [hg]; exact Row.new _ _ _
 have hL3 := hL2.alloc (.cells (macC gr kb) 225)
 have hgw : w.heap.size <= g := by have := hL2.size; omega
 have hgne : g ≠ gr := by omega
 rw [<- hg]
 clear hg hrun hb1 hb2 hL2
 generalize w2.alloc (.cells (macC gr kb) 225) = w3 at *
 have hcm0 := mac_run hrow
 refine (wpIn_wide (n := 0)).1 ?_
 refine wpIn_region_last wide_wide [Pr.eq (.pointer (some ⟨g, 0, none⟩)), Pr.eq (.pointer (some ⟨g, 0, none⟩)), Pr.eq (.pointer (some ⟨g, 0, none⟩)), Pr.eq (.pointer (some ⟨g, 0, none⟩)), Pr.eq (.pointer (some ⟨gr, 0, none⟩)), Pr.fnBy 54, Pr.eq (.pointer (some ⟨g, 0, none⟩)), Pr.eq (.pointer (some ⟨g, 0, none⟩)), Pr.eq (.pointer (some ⟨g, 1, none⟩)), Pr.eq (.agg (aB kb)), Pr.sl w3.heap.size 64 (Hm.turn 54 kb)] (by kernel_rfl) (by kernel_rfl) (by kernel_rfl) (by kernel_rfl) (by kernel_rfl) (by kernel_rfl) rfl ⟨?_, ?_, ?_, ?_, ?_, ?_, ?_, ?_, ?_, ?_, ?_, trivial⟩ ?_
 ·exact fun ac W hL he => stepOk_want rfl (op_move rfl (he.k 3))
 ·exact fun ac W hL he => stepOk_want rfl (op_nil rfl (he.g 0 10) rfl)
 ·exact fun ac W hL he => stepOk_want rfl (op_fieldAddr rfl (he.g 1 11) fieldM0 rfl)
 ·exact fun ac W hL he => stepOk_want rfl (op_fieldAddr rfl (he.g 2 12) fieldS0 rfl)
 ·exact fun ac W hL he => stepOk_want rfl (op_load rfl (he.g 3 13) (loadRun (hL.cell hcm0)) rfl)
 ·intro ac W hL he; refine stepOk_want rfl ?_; exact op_callF (vs := #[.int .u8 54]) rfl (by simp [Act.eval]) (enters_of Tryz.func152 (by kernel_rfl) rfl) (by_at 54 _ rfl W)
 ·exact fun ac W hL he => stepOk_want rfl (op_move rfl (he.k 3))
 ·exact fun ac W hL he => stepOk_want rfl (op_nil rfl (he.g 6 16) rfl)
 ·exact fun ac W hL he => stepOk_want rfl (op_fieldAddr rfl (he.g 7 17) fieldM1 rfl)
 ·exact fun ac W hL he => stepOk_want rfl (op_load rfl (he.g 8 18) (mac_key HPL.out (hrow.later hL)) rfl)
 ·intro ac W hL he; refine stepOk_want rfl ?_; obtain ⟨gc, e0, hgc⟩ : ∃ gc, ac.eval (.tmp 15) = .func (.func 177) #[] #[.pointer (some ⟨gc, 0, none⟩)] /\ W.cell? ⟨gc, 0, none⟩ = some (.int .u8 ((54 : UInt8).toNat : Int)) := he.g 5 15; have e1 : ac.eval (.tmp 19) = .agg (aB kb) := he.g 9 19; exact op_callV (vs := #[.agg (aB kb)]) rfl e0 (by simp only [List.map_toArray, List.map_cons, List.map_nil, e1]) (enters_of Tryz.func177 (by kernel_rfl) rfl) rfl ((by1_any kb 54 gc W HPL.out hgc).mono fun e W' ⟨g', he', hrd, hge, hL'⟩ => ⟨_, he', hL', g', rfl, Nat.le_trans hL.size hge, hrd⟩)
 ·intro xs W hL hx hk hg
  have e1 := hg 4 14 (by decide) (by kernel_rfl)
  have e2 := hg 10 20 (by decide) (by kernel_rfl)
  have v1 : xs 4 = .pointer (some ⟨gr, 0, none⟩) := hx 4 (by decide)
  obtain ⟨gb, v2, hgb, hrd⟩ : ∃ gb, xs 10 = .slice (some ⟨gb, 0, none⟩) 64 64 /\ w3.heap.size <= gb /\ Rd W (some ⟨gb, 0, none⟩) (Hm.turn 54 kb) := hx 10 (by decide)
  rw [v1] at e1
  rw [v2] at e2
  have hrunW := hrun2.later hL
  have hrowW := hrow.later hL
  have hgr3 := hrun2.lt
  refine last_callF (vs := #[.pointer (some ⟨gr, 0, none⟩), .slice (some ⟨gb, 0, none⟩) 64 64]) rfl (by simp only [List.map_toArray, List.map_cons, List.map_nil, e1, e2]) (enters_of Tryz.func151 (by kernel_rfl) rfl) ?_
  refine (write_any gr [] (some ⟨gb, 0, none⟩) 64 64 (Hm.turn 54 kb) W hrunW (by rw [Hm.turn_len, HPL.out]) (Nat.le_refl _) (by decide) hrd (fun ad e _ e2 => by cases e; simp at e2; omega) (by decide)).mono ?_
  rintro e w5 ⟨rfl, hrun5, hg5⟩
  refine ⟨_, rfl, ?_⟩
  have hrow5 := hrowW.grown hg5 (by intro e; injection e with e; exact hgne e)
  have hL5 : Later w w5 := Below.grown (hL3.step hL) hg5 (hL3.step hL).size (fun j e => by cases e; exact hgr)
  clear hx hk hg e1 e2 v1 v2
  simp only [initL, lastL, putL, Nat.reduceAdd, Act.put, List.setIfInBounds_toArray, List.set_cons_succ, List.set_cons_zero]
  go_wp2_with fail
  go_ret
  exact ⟨g, gr, rfl, ⟨hgne, by rw [HKB.out]; exact hrow5, by rw [HKB.out, List.append_nil]; simpa using hrun5⟩, hgw, hgr, hL5⟩
theorem writeMac_any (g gr : Nat) (key msg : List UInt8) (A : Option Addr) (n c : Nat) (b : List UInt8) (w : World) (h : IsMac w g gr key msg) (hb : b.length = n) (hcap : n <= c) (hmc : c <= 9223372036854775807) (hr : Rd w A b) (hne : ∀ ad, A = some ad -> b ≠ [] -> ad.block ≠ gr) (hmax : msg.length + n <= 1000000000) :
  Calls Tryz.prog 119 #[.pointer (some ⟨g, 0, none⟩), .slice A n c] w fun e w' => e = .returned (.int .i64 0) /\ IsMac w' g gr key (msg ++ b) /\ w.grownBy w' (some gr) := by
 have hcell := mac_run h.row
 have hw := write_any gr _ A n c b w h.run hb hcap hmc hr hne (by rw [List.length_append, Hm.turn_len, Hm.pad_len]; omega)
 rw [List.append_assoc] at hw
 have HH := Lib.hid h
 clear hb
 go_enter Tryz.func119, Tryz.ntmps119
 go_wp2_with (first
  | (go_at_call 153; refine (none_mac g gr key msg _ HH.out).mono ?_; rintro e w' ⟨rfl, rfl⟩)
  | (go_at_call 151; refine hw.mono ?_; clear hw; rintro e w2 ⟨rfl, hrun, hg⟩)
  | fail)
 go_ret
 exact ⟨rfl, ⟨HH.out.ne, HH.out.row.grown hg (by intro e; injection e with e; exact HH.out.ne e), hrun⟩, hg⟩
theorem macTag_any (g gr : Nat) (key msg : List UInt8) (w : World) (h : IsMac w g gr key msg) (hmax : msg.length <= 900000000) :
  Calls Tryz.prog 120 #[.pointer (some ⟨g, 0, none⟩)] w fun e w' => e = .returned (.agg (hC (Hm.tag key msg))) /\ Below w.heap.size w w' := by
 have hcell := mac_run h.row
 have hrow2 := Row.new w 25 (hC [])
 have hb0 := below_new w (.cells (hC []) 25)
 have h1 := h.later ((Later.refl w).alloc (.cells (hC []) 25))
 have hcell1 := mac_run h1.row
 have hsum := runSum_any gr _ _ h1.run (by rw [List.length_append, Hm.turn_len, Hm.pad_len]; omega)
 have hpl := Hm.pad_len key
 obtain ⟨T, hT⟩ : ∃ q, Hm.tag key msg = q := ⟨_, rfl⟩
 obtain ⟨H, hH⟩ : ∃ q, Sha.sum (Hm.turn 54 (Hm.pad key) ++ msg) = q := ⟨_, rfl⟩
 have hHl : H.length = 32 := by rw [<- hH]; exact Sha.sum_len _
 have hTl : T.length = 32 := by rw [<- hT]; exact Sha.sum_len _
 have hTs : Sha.sum (Hm.turn 92 (Hm.pad key) ++ H) = T := by rw [<- hT, <- hH]; rfl
 rw [hH] at hsum
 rw [hT]
 have HTL := Lib.hid hTl
 have HHL := Lib.hid hHl
 have HTS := Lib.hid hTs
 have HPL := Lib.hid hpl
 have HN := Lib.hid (none_mac g gr key msg _ h1)
 clear hT hH hHl hTl hTs hpl
 go_enter Tryz.func120, Tryz.ntmps120
 go_upto_region 4 with (first
  | (with_reducible refine wpList_alloc rfl 25 rfl (allocH _) ?_)
  | (go_at_call 153; refine HN.out.mono ?_; rintro e w' ⟨rfl, rfl⟩)
  | (go_at_call 154; refine hsum.mono ?_; clear hsum; rintro e w2 ⟨rfl, hb2⟩; obtain ⟨w3, hst, hr3, hg3⟩ := storeH (a := []) (b := H) (by simp) (by rw [HHL.out]; omega) (Row.new w2 25 (hC [])))
  | (refine wpList_store rfl 25 (.tmp 3) (.tmp 12) rfl (.pointer (some ⟨w2.heap.size, 0, none⟩)) (.agg (hC H)) rfl rfl hst ?_)
  | fail)
 obtain ⟨g2, hg2⟩ : ∃ q, q = w.heap.size := ⟨_, rfl⟩
 rw [<- hg2] at hrow2 ⊢
 have hgle : w.heap.size <= g2 := by omega
 generalize w.alloc (.cells (hC []) 25) = w1 at *
 have hL2 : Later w1 w2 := hb2
 have hL3 : Later w1 w3 := Below.grown (hL2.alloc _) hg3 (by have := hL2.size; simp only [World.size_alloc] at this ⊢; omega) (fun j e => by cases e; exact hL2.size)
 obtain ⟨g3, hg3e⟩ : ∃ q, q = w2.heap.size := ⟨_, rfl⟩
 rw [<- hg3e] at hr3 ⊢
 have hrow := h1.row.later hL3
 have hrow2' := hrow2.later hL3
 have hb3 : Below w.heap.size w w3 := hb0.trans (hL3.mono hb0.size)
 have hbs := hb3.size
 generalize Hm.pad key = kb at *
 have HSS : Hid (∀ gq W, RdsC W (some ⟨gq, 0, none⟩) [Hm.turn 92 kb, H] -> Calls Tryz.prog 155 #[.slice (some ⟨gq, 0, none⟩) 2 2] W fun e w' => e = .returned (.agg (hC T)) /\ Below W.heap.size W w') := Lib.hid (fun gq W hr => by
  have := shaSum_any (some ⟨gq, 0, none⟩) 2 2 [Hm.turn 92 kb, H] W rfl (by decide) (by simp only [List.flatten_cons, List.flatten_nil, List.append_nil, List.length_append, Hm.turn_len, HHL.out, HPL.out]; decide) hr
  have hf : [Hm.turn 92 kb, H].flatten = Hm.turn 92 kb ++ H := by simp
  rwa [hf, HTS.out] at this)
 clear hcell hcell1 hb0 hb2 hL2 hL3 hg3 hst hg3e h1 h HN hrow2 hg2
 refine (wpIn_wide (n := 0)).1 ?_
 refine wpIn_region_last wide_wide [Pr.fnBy 92, Pr.eq (.pointer (some ⟨g, 0, none⟩)), Pr.eq (.pointer (some ⟨g, 0, none⟩)), Pr.eq (.pointer (some ⟨g, 1, none⟩)), Pr.eq (.agg (aB kb)), Pr.sl w3.heap.size 64 (Hm.turn 92 kb), Pr.eq (.slice (some ⟨g3, 0, none⟩) 32 32), Pr.rowsC 2 [Hm.turn 92 kb, H], Pr.eq (.agg (hC T))] (by kernel_rfl) (by kernel_rfl) (by kernel_rfl) (by kernel_rfl) (by kernel_rfl) (by kernel_rfl) rfl ⟨?_, ?_, ?_, ?_, ?_, ?_, ?_, ?_, ?_, trivial⟩ ?_
 ·intro ac W hL he; refine stepOk_want rfl ?_; exact op_callF (vs := #[.int .u8 92]) rfl (by simp [Act.eval]) (enters_of Tryz.func152 (by kernel_rfl) rfl) (by_at 92 _ rfl W)
 ·exact fun ac W hL he => stepOk_want rfl (op_move rfl (he.k 0))
 ·exact fun ac W hL he => stepOk_want rfl (op_nil rfl (he.g 1 14) rfl)
 ·exact fun ac W hL he => stepOk_want rfl (op_fieldAddr rfl (he.g 2 15) fieldM1 rfl)
 ·exact fun ac W hL he => stepOk_want rfl (op_load rfl (he.g 3 16) (mac_key HPL.out (hrow.later hL)) rfl)
 ·intro ac W hL he; refine stepOk_want rfl ?_; obtain ⟨gc, e0, hgc⟩ : ∃ gc, ac.eval (.tmp 13) = .func (.func 177) #[] #[.pointer (some ⟨gc, 0, none⟩)] /\ W.cell? ⟨gc, 0, none⟩ = some (.int .u8 ((92 : UInt8).toNat : Int)) := he.g 0 13; have e1 : ac.eval (.tmp 17) = .agg (aB kb) := he.g 4 17; exact op_callV (vs := #[.agg (aB kb)]) rfl e0 (by simp only [List.map_toArray, List.map_cons, List.map_nil, e1]) (enters_of Tryz.func177 (by kernel_rfl) rfl) rfl ((by1_any kb 92 gc W HPL.out hgc).mono fun e W' ⟨g', he', hrd, hge, hL'⟩ => ⟨_, he', hL', g', rfl, Nat.le_trans hL.size hge, hrd⟩)
 ·exact fun ac W hL he => stepOk_want rfl (op_slice (W' := W) rfl (he.k 3) rfl rfl rfl (hm_sliceHash W) rfl)
 ·intro ac W hL he; refine stepOk_want rfl ?_; obtain ⟨gb, e0, hgb, hrd⟩ : ∃ gb, ac.eval (.tmp 18) = .slice (some ⟨gb, 0, none⟩) 64 64 /\ w3.heap.size <= gb /\ Rd W (some ⟨gb, 0, none⟩) (Hm.turn 92 kb) := he.g 5 18; have e1 : ac.eval (.tmp 19) = .slice (some ⟨g3, 0, none⟩) 32 32 := he.g 6 19; exact op_buildSlice (W' := _) (vs := #[(0, .slice (some ⟨gb, 0, none⟩) 64 64), (1, .slice (some ⟨g3, 0, none⟩) 32 32)]) rfl (by simp only [List.map_toArray, List.map_cons, List.map_nil, e0, e1]) (run_rows2 W _ _ _ _ _ _) ((Later.refl W).alloc _) ⟨_, rfl, (RdsW.two (w0 := W) 60 rfl hrd (by rw [Hm.turn_len, HPL.out]) (Nat.le_refl _) (by decide) (rd_hash HHL.out (hr3.later hL)) HHL.out (Nat.le_refl _) (by decide)).toC ((Later.refl W).alloc _)⟩
 ·intro ac W hL he; refine stepOk_want rfl ?_; obtain ⟨gq, eq, hrr⟩ : ∃ g, ac.eval (.tmp 20) = .slice (some ⟨g, 0, none⟩) 2 2 /\ RdsC W (some ⟨g, 0, none⟩) [Hm.turn 92 kb, H] := he.g 7 20; exact op_callF (vs := #[.slice (some ⟨gq, 0, none⟩) 2 2]) rfl (by simp only [List.map_toArray, List.map_cons, List.map_nil, eq]) (enters_of Tryz.func155 (by kernel_rfl) rfl) ((HSS.out gq W hrr).mono fun e W' ⟨he', hb⟩ => ⟨_, he', hb, rfl⟩)
 ·intro xs W hL hx hk hg
  have e2 := hg 8 21 (by decide) (by kernel_rfl)
  have v2 : xs 8 = .agg (hC T) := hx 8 (by decide)
  rw [v2] at e2
  have e1 : _ = Value.pointer (some ⟨g2, 0, none⟩) := hk (.tmp 2) (by kernel_rfl)
  obtain ⟨w9, hst9, hr9, hg9⟩ := storeH (a := []) (b := T) (by simp) (by rw [HTL.out]; omega) (hrow2'.later hL)
  refine last_store rfl rfl e1 e2 hst9 ?_
  have hb9 : Below w.heap.size w w9 := (hb3.trans (hL.mono hbs)).grown hg9 (by have := hL.size; omega) (fun j e => by cases e; exact hgle)
  clear hx hk hg e1 e2 v2 hst9 hg9
  simp only [initL, lastL, putL, Nat.reduceAdd, Act.put, List.setIfInBounds_toArray, List.set_cons_succ, List.set_cons_zero]
  go_wp2_with fail
  refine bodyPost_ret (results_cell_row rfl _ _ g2 25 (hC T) (0, 0) _ rfl hr9 Tryz.underlying25 rfl (by rw [hC_size _ (by rw [HTL.out]; omega)]; exact infoH)) rfl ⟨rfl, hb9⟩
theorem hmTag_any (A : Option Addr) (n ca : Nat) (key : List UInt8) (B : Option Addr) (m cb : Nat) (ls : List (List UInt8)) (w : World) (hn : key.length = n) (hc : n <= ca) (hcm : ca <= 9223372036854775807) (hnm : n <= 1000000) (hr : Rd w A key)
  (hls : ls.length = m) (hmm : m <= 1000000) (hmax : ls.flatten.length <= 100000000) (hrs : RdsC w B ls) :
  Calls Tryz.prog 73 #[.slice A n ca, .slice B m cb] w fun e w' => e = .returned (.agg (hC (Hm.tag key ls.flatten))) /\ Below w.heap.size w w' := by
 subst hls
 have hrowA := Row.new w 25 (hC [])
 have hbA := below_new w (.cells (hC []) 25)
 have hnew := newMac_any A n ca key (w.alloc (.cells (hC []) 25)) hn hc hcm hnm (hr.below hbA)
 have HMAX := Lib.hid hmax
 have HR := Lib.hid hrs
 clear hmax hrs hn hr
 go_enter Tryz.func73, Tryz.ntmps73
 go_wp2_with (first
  | (with_reducible refine wpList_alloc rfl 25 rfl (allocH _) ?_)
  | (go_at_call 118; refine hnew.mono ?_; clear hnew; rintro e w1 ⟨g, gr, rfl, hmac1, hg1, hgr1, hL1⟩)
  | fail)
 have hb1' : Below w.heap.size w w1 := hbA.trans (hL1.below.mono hbA.size)
 have hsz : (w.alloc (.cells (hC []) 25)).heap.size = w.heap.size + 1 := World.size_alloc _ _
 have hgw : w.heap.size < gr := by omega
 have hrow1 : Row w1 w.heap.size 25 (hC []) := hrowA.later hL1
 obtain ⟨g4, hg4⟩ : ∃ q, q = w.heap.size := ⟨_, rfl⟩
 rw [<- hg4] at hrow1 ⊢
 have hg4r : g4 ≠ gr := by omega
 have hg4w : w.heap.size <= g4 := by omega
 have hgrw : w.heap.size <= gr := by omega
 clear hL1 hbA hrowA hg1 hgr1 hsz hg4
 go_loopw [12] (fun t wr => ∃ k : Nat, k <= ls.length /\ t = .int .i64 k /\ IsMac wr g gr key (ls.take k).flatten /\ Row wr g4 25 (hC []) /\ Below w.heap.size w wr) (fun t _ => ls.length - (intOf t).toNat)
 case atStart => exact ⟨0, by omega, rfl, hmac1, hrow1, hb1'⟩
 case round =>
  obtain ⟨k, hk, rfl, hmac, hrow, hb⟩ := hrel
  clear hmac1 hrow1 hb1'
  have hsz0 := hb.size
  by_cases hlt : k < ls.length
  ·obtain ⟨b, o, Ai, ci, rfl, hc1, hci, hcim, hrd1⟩ := HR.out.at_ hlt
   have hc : wr.cell? ⟨b, o + k, none⟩ = some (.slice Ai ls[k].length ci) := (hb.cell (p := ⟨b, o + k, none⟩) (block_lt_of_cell hc1)).trans hc1
   have hrd := hrd1.below hb
   have hlt1 : ∀ ad, Ai = some ad -> ls[k] ≠ [] -> ad.block ≠ gr := fun ad e hl => by
    obtain ⟨b', o', e', _⟩ := hrd1 hl
    rw [e] at e'
    injection e' with e'
    have := hrd1.lt (e.trans (congrArg some e')) hl
    rw [e']
    exact Nat.ne_of_lt (Nat.lt_trans this hgw)
   have hnext : (ls.take (k + 1)).flatten = (ls.take k).flatten ++ ls[k] := by
    rw [List.take_succ_eq_append_getElem hlt, List.flatten_append]; simp
   have hpl : (ls.take k).flatten.length + ls[k].length <= 1000000000 := by
    have := take_flat ls (k + 1)
    have h2 := HMAX.out
    rw [hnext, List.length_append] at this
    omega
   have HN := Lib.hid hnext
   have HL := Lib.hid hlt1
   clear hnext hlt1 hc1 hrd1
   generalize (ls.take k).flatten = z at *
   generalize ls[k] = l at *
   go_wp2_with (first | (go_at_call 119; refine (writeMac_any g gr key z Ai _ ci l _ hmac rfl hci hcim hrd HL.out hpl).mono ?_; rintro e w2 ⟨rfl, hmac2, hg2⟩) | fail)
   have hrow2 := hrow.grown hg2 (by intro e; injection e with e; exact hg4r e)
   have hb2 := hb.grown hg2 hb.size (fun j e => by cases e; exact hgrw)
   go_roundw
   case rel => exact ⟨k + 1, by omega, by go_num, by rw [HN.out]; exact hmac2, hrow2, hb2⟩
   case measure => simp [intOf]; omega
  ·obtain rfl : k = ls.length := by omega
   rw [List.take_length] at hmac
   have hL := HMAX.out
   have hslen : (Hm.tag key ls.flatten).length = 32 := Hm.tag_len _ _
   have htag := macTag_any g gr key ls.flatten wr hmac (by omega)
   obtain ⟨T, hT⟩ : ∃ z, Hm.tag key ls.flatten = z := ⟨_, rfl⟩
   rw [hT] at htag hslen
   have HT := Lib.hid hT
   have HTL := Lib.hid hslen
   clear hT hslen hmac
   go_wp2_with (first
    | (go_at_call 120; refine htag.mono ?_; clear htag; rintro e w2 ⟨rfl, hb2⟩; have hrow2 := hrow.belowAll hb2; obtain ⟨w9, hst, hr9, hg9⟩ := storeH (a := []) (b := T) (by simp) (by rw [HTL.out]; omega) hrow2)
    | (refine wpList_store rfl 25 (.tmp 4) (.tmp 21) rfl (.pointer (some ⟨g4, 0, none⟩)) (.agg (hC T)) rfl rfl hst ?_)
    | fail)
   have hb2' : Below w.heap.size w w2 := hb.trans (hb2.mono hb.size)
   refine bodyPost_ret (results_cell_row rfl _ _ g4 25 (hC T) (0, 0) _ rfl hr9 Tryz.underlying25 rfl (by rw [hC_size _ (by rw [HTL.out]; omega)]; exact infoH)) rfl ⟨by rw [HT.out], hb2'.grown hg9 hb2'.size (fun j e => by cases e; exact hg4w)⟩
theorem hm_right_any (A : Option Addr) (n ca : Nat) (key : List UInt8) (x : List UInt8) (B : Option Addr) (m cb : Nat) (ls : List (List UInt8)) (w : World) (hn : key.length = n) (hc : n <= ca) (hcm : ca <= 9223372036854775807) (hnm : n <= 1000000) (hr : Rd w A key)
  (hx : x.length = 32) (hls : ls.length = m) (hmm : m <= 1000000) (hmax : ls.flatten.length <= 100000000) (hrs : RdsC w B ls) :
  Calls Tryz.prog 34 #[.slice A n ca, .agg (hC x), .slice B m cb] w fun e w' => e = .returned (.bool (Hm.tag key ls.flatten == x)) /\ Below w.heap.size w w' := by
 have hrow := Row.new w 25 (hC x)
 have hb0 := below_new w (.cells (hC x) 25)
 have HTAG : Hid (∀ W, Later (w.alloc (.cells (hC x) 25)) W -> Calls Tryz.prog 73 #[.slice A n ca, .slice B m cb] W fun e w' => e = .returned (.agg (hC (Hm.tag key ls.flatten))) /\ Below W.heap.size W w') := Lib.hid (fun W hL => hmTag_any A n ca key B m cb ls W hn hc hcm hnm ((hr.below hb0).later hL) hls hmm hmax ((hrs.below hb0).below hL))
 obtain ⟨T, hT⟩ : ∃ z, Hm.tag key ls.flatten = z := ⟨_, rfl⟩
 have hTl : T.length = 32 := by rw [<- hT]; exact Hm.tag_len _ _
 rw [hT] at HTAG ⊢
 have HEQ := Lib.hid (fun W => eqlHash T x hTl hx W)
 have HX := Lib.hid hx
 obtain ⟨q, hq⟩ : ∃ q, (T == x) = q := ⟨_, rfl⟩
 rw [hq] at HEQ ⊢
 clear hn hr hx hls hmax hrs hT hTl hq
 go_enter Tryz.func34, Tryz.ntmps34
 go_upto_region 1 with (first
  | (refine wpList_box rfl 25 (.tmp 1) rfl (.agg (hC x)) rfl (boxH x HX.out _) ?_)
  | fail)
 obtain ⟨g, hg⟩ : ∃ q, q = w.heap.size := ⟨_, rfl⟩
 rw [<- hg] at hrow ⊢
 have hbs := hb0.size
 clear hg
 generalize w.alloc (.cells (hC x) 25) = w1 at *
 refine (wpIn_wide (n := 0)).1 ?_
 refine wpIn_region_vals wide_wide [Pr.eq (.slice A n ca), Pr.eq (.slice B m cb), Pr.eq (.agg (hC T)), Pr.eq (.agg (hC x)), Pr.eq (.bool q), Pr.eq (.bool q)] (by kernel_rfl) (by kernel_rfl) (by kernel_rfl) (by kernel_rfl) (by kernel_rfl) ⟨?_, ?_, ?_, ?_, ?_, ?_, trivial⟩ ?_
 ·exact fun ac W hL he => stepOk_want rfl (op_move rfl (he.k 0))
 ·exact fun ac W hL he => stepOk_want rfl (op_move rfl (he.k 2))
 ·intro ac W hL he; refine stepOk_want rfl ?_; have e0 : ac.eval (.tmp 7) = (.slice A n ca) := (he.g 0 7); have e1 : ac.eval (.tmp 8) = (.slice B m cb) := (he.g 1 8); exact op_callF (vs := #[.slice A n ca, .slice B m cb]) rfl (by simp only [List.map_toArray, List.map_cons, List.map_nil, e0, e1]) (enters_of Tryz.func73 (by kernel_rfl) rfl) ((HTAG.out W hL).mono fun e W' ⟨he', hb⟩ => ⟨_, he', hb, rfl⟩)
 ·exact fun ac W hL he => stepOk_want rfl (op_load rfl (he.k 4) (loadH HX.out (hrow.later hL)) rfl)
 ·exact fun ac W hL he => stepOk_want rfl (op_binOp rfl (he.g 2 9) (he.g 3 10) (eqgHash _ _ _ _ _ W) (HEQ.out W) rfl)
 ·exact fun ac W hL he => stepOk_want rfl (op_assign rfl (he.g 4 11))
 intro xs W hL hxs
 have he6 : xs 5 = .bool q := hxs 5 (by decide)
 clear hxs
 simp only [putL, Nat.reduceAdd, Act.put, List.setIfInBounds_toArray, List.set_cons_succ, List.set_cons_zero, he6]
 go_wp2_with fail
 go_ret
 exact ⟨rfl, hb0.trans (hL.below.mono hbs)⟩
theorem joined_any (B : Option Addr) (m cb : Nat) (ls : List (List UInt8)) (w : World) (hls : ls.length = m) (hmm : m <= 1000000) (hmax : ls.flatten.length <= 100000000) (hrs : RdsC w B ls) :
  Calls Tryz.prog 122 #[.slice B m cb] w fun e w' => ∃ v, e = .returned v /\ Own 5 w' w.heap.size v ls.flatten /\ Below w.heap.size w w' := by
 subst hls
 have HMAX := Lib.hid hmax
 have HR := Lib.hid hrs
 clear hmax hrs
 go_enter Tryz.func122, Tryz.ntmps122
 go_wp2_with fail
 go_loopw [2, 7] (fun v t wr => ∃ k : Nat, k <= ls.length /\ t = .int .i64 k /\ Own 5 wr w.heap.size v (ls.take k).flatten /\ Below w.heap.size w wr) (fun _ t _ => ls.length - (intOf t).toNat)
 case atStart => exact ⟨0, by omega, rfl, Own.nil _ _ _, Below.refl _ _⟩
 case round =>
  obtain ⟨k, hk, rfl, hown, hb⟩ := hrel
  have hbs := hb.size
  by_cases hlt : k < ls.length
  ·obtain ⟨b, o, Ai, ci, rfl, hc1, hci, hcim, hrd1⟩ := HR.out.at_ hlt
   have hc : wr.cell? ⟨b, o + k, none⟩ = some (.slice Ai ls[k].length ci) := (hb.cell (p := ⟨b, o + k, none⟩) (block_lt_of_cell hc1)).trans hc1
   have hrd := hrd1.below hb
   have hnext : (ls.take (k + 1)).flatten = (ls.take k).flatten ++ ls[k] := by
    rw [List.take_succ_eq_append_getElem hlt, List.flatten_append]; simp
   have hpl : (ls.take k).flatten.length + ls[k].length <= 100000000 := by
    have := take_flat ls (k + 1)
    have h2 := HMAX.out
    rw [hnext, List.length_append] at this
    omega
   have HN := Lib.hid hnext
   clear hnext hc1 hrd1
   generalize (ls.take k).flatten = z at *
   generalize ls[k] = l at *
   go_wp2_with (first
    | (at_builtin; refine wpList_append_bytes rfl (.tmp 11) (.tmp 12) 60 rfl w.heap.size 5 Tryz.underlying60 byteInfo8 _ z rfl hown Ai l.length ci l rfl rfl hrd (by omega) hbs ?_; intro v2 w2 hown2 hg2 hat2)
    | fail)
   go_roundw
   case rel => exact ⟨k + 1, by omega, by go_num, by rw [HN.out]; exact hown2, hb.grown hg2 hbs (fun j e => (hown.at_ j e).1)⟩
   case measure => simp [intOf]; omega
  ·obtain rfl : k = ls.length := by omega
   rw [List.take_length] at hown
   go_wp2_with fail
   go_ret
   exact ⟨_, rfl, hown, hb⟩
theorem tags_any (A : Option Addr) (n ca : Nat) (name : ByteArray) (w : World) :
  Calls Tryz.prog 121 #[.slice A n ca, .string name] w fun e w' => ∃ gk gs, e = .returned (.func (.func 156) #[] #[.pointer (some ⟨gk, 0, none⟩), .pointer (some ⟨gs, 0, none⟩)]) /\ w'.cell? ⟨gk, 0, none⟩ = some (.slice A n ca) /\ w'.cell? ⟨gs, 0, none⟩ = some (.string name) /\ w.heap.size <= gk /\ w.heap.size <= gs /\ Later w w' := by
 go_enter Tryz.func121, Tryz.ntmps121
 go_wp2
 go_ret
 exact ⟨_, _, rfl, (((Row.new w 60 #[.slice A n ca]).alloc _).cell 0).trans rfl, ((show Row ((w.alloc (.cells #[.slice A n ca] 60)).alloc (.cells #[.string name] 9)) (w.heap.size + 1) 9 #[.string name] from Row.newAt (by simp only [World.size_alloc])).cell 0).trans rfl, Nat.le_refl _, by omega, ((Later.refl w).alloc _).alloc _⟩
structure KeepC (g : Nat) (X Y : World) : Prop where
 size : X.heap.size <= Y.heap.size
 same : ∀ b cs t fr, b ≠ g -> X.heap[b]? = some (.cells cs t fr) -> Y.heap[b]? = X.heap[b]?
theorem KeepC.trans {g : Nat} {X Y Z : World} (h : KeepC g X Y) (k : KeepC g Y Z) : KeepC g X Z := ⟨Nat.le_trans h.size k.size, fun b cs t fr hb hc => (k.same b cs t fr hb ((h.same b cs t fr hb hc).trans hc)).trans (h.same b cs t fr hb hc)⟩
theorem KeepC.put {g : Nat} (W : World) (l : Nat) (o ob : Obj) (hl : W.heap[l]? = some ob) (hc : ob.isCells = false) : KeepC g W (W.putObj l o) := ⟨by simp [World.putObj], fun b cs t fr hb hcs => World.putObj_heap_other (by
 intro e
 subst e
 rw [hl] at hcs
 cases hcs
 cases hc)⟩
theorem KeepC.grown {g : Nat} {X Y : World} (h : X.grownBy Y (some g)) : KeepC g X Y := ⟨h.size, fun b cs t fr hb hc => h.block b (Array.getElem?_eq_some_iff.1 hc).1 (by intro e; injection e with e; exact hb e)⟩
theorem KeepC.later {g : Nat} {X Y : World} (h : Later X Y) : KeepC g X Y := ⟨h.size, fun b cs t fr _ hc => Below.block h b (Array.getElem?_eq_some_iff.1 hc).1⟩
theorem cells_of_cell {W : World} {b o : Nat} {v : Value} (h : W.cell? ⟨b, o, none⟩ = some v) : ∃ cs t fr, W.heap[b]? = some (.cells cs t fr) := by
 unfold World.cell? at h
 rcases hb : W.heap[b]? with _ | ob
 ·simp [hb] at h
 ·cases ob <;> simp [hb] at h
  exact ⟨_, _, _, rfl⟩
theorem KeepC.cell {g b o : Nat} {X Y : World} {v : Value} (h : KeepC g X Y) (hb : b ≠ g) (hc : X.cell? ⟨b, o, none⟩ = some v) : Y.cell? ⟨b, o, none⟩ = some v := by
 obtain ⟨cs, t, fr, e⟩ := cells_of_cell hc
 have := h.same b cs t fr hb e
 unfold World.cell? at hc ⊢
 simp only [this]
 exact hc
theorem KeepC.rd {g : Nat} {X Y : World} {A : Option Addr} {l : List UInt8} (h : KeepC g X Y) (hr : Rd X A l) (hA : ∀ ad, A = some ad -> l ≠ [] -> ad.block ≠ g) : Rd Y A l := fun hne => by
 obtain ⟨b, o, e, hc⟩ := hr hne
 exact ⟨b, o, e, fun i hi => h.cell (hA _ e hne) (hc i hi)⟩
theorem wpListIn_load {F : Fence} {n : Nat} {P : Program} {w : World} {ops : Array Oper} {rest : List Oper} {o : Oper} {a : Act} {Q : Exit -> Act -> World -> Prop} (hgd : o.guard = none) (T : TypeId) (x : Operand) (ho : o.op = .load T x) (vx : Value) (hx : a.eval x = vx) {v : Value} {w' : World}
  (hr : (Instr.loadAt T vx).run P w = .ok v w') (h : wpListIn F n P ops Q rest (a.put o.dst v) w') : wpListIn F n P ops Q (o :: rest) a w := by
 refine wpListIn_plain hgd fun K hK => ?_
 unfold Oper.wpIn
 refine ⟨?_, ?_⟩
 ·simp [Oper.about, ho]
 ·rw [Oper.semAt_plain F _ _ (by rw [ho]; intro c hc'; cases hc')]
  simp [execOp, ho, hx, hr, Result.andThen]
  exact hK _ _ h
theorem tags1_seq (key name : List UInt8) (gk gs g8 : Nat) (A : Option Addr) (n ca : Nat) (w : World) (n1 : Nat) (hn1 : 1 <= n1) (hn : key.length = n) (hc : n <= ca) (hcm : ca <= 9223372036854775807) (hnm : n <= 1000000) (hnl : name.length <= 1000000)
  (hA : Rd w A key) (hAg : ∀ ad, A = some ad -> key ≠ [] -> ad.block ≠ g8) (hk : w.cell? ⟨gk, 0, none⟩ = some (.slice A n ca)) (hs : w.cell? ⟨gs, 0, none⟩ = some (.string ⟨name.toArray⟩)) (hkg : gk ≠ g8) (hsg : gs ≠ g8) (hg8 : g8 < w.heap.size) :
  SeqC Fence.wide n1 Tryz.prog 156 #[.pointer (some ⟨gk, 0, none⟩), .pointer (some ⟨gs, 0, none⟩)] (fun x => #[.agg (hC x)]) (KeepC g8) (fun xs => xs.length = 255) (fun _ => True) (fun pre x => x = Hm.tags key name (pre.length + 1) /\ pre.length < 255) (fun _ => False) w := fun l J Jx W hW hJ hJx hY h0 => by
 have hkW := Later.cell hW hk
 have hsW := Later.cell hW hs
 have hAW := hA.later hW
 have hgW : g8 < W.heap.size := Nat.lt_of_lt_of_le hg8 hW.size
 have HY := Lib.hid hY
 have HJ := Lib.hid hJ
 have HN := Lib.hid hn
 clear hY hJ hJx hk hs hA hW hg8 hn
 refine callsIn_of_wp Tryz.func156 rfl trivial ?_ rfl
 simp only [Tryz.ntmps156, List.size_toArray, List.length_cons, List.length_nil, Nat.reduceAdd, Nat.reduceSub, Array.replicate_succ, Array.replicate_zero, List.push_toArray, List.append_toArray, List.nil_append, List.cons_append]
 gi_wp2
 refine wpIn_scope_wide ?_
 gi_wp2
 refine wpIn_label ?_
 gi_wp2
 gi_loopw [4, 7] (fun v t wr => ∃ (pre : List (List UInt8)) (S : Option Addr) (c : Nat), v = .slice S (Hm.tags key name pre.length).length c /\ (Hm.tags key name pre.length).length <= c /\ c <= 9223372036854775807 /\ Rd wr S (Hm.tags key name pre.length) /\ (∀ ad, S = some ad -> Hm.tags key name pre.length ≠ [] -> ad.block ≠ g8) /\ t = .int .i64 (pre.length : Int) /\ pre.length <= 255 /\ wr.cell? ⟨gk, 0, none⟩ = some (.slice A n ca) /\ wr.cell? ⟨gs, 0, none⟩ = some (.string ⟨name.toArray⟩) /\ Rd wr A key /\ g8 < wr.heap.size /\ J pre wr) (fun _ t _ => 255 - (intOf t).toNat)
 case atStart => exact ⟨[], none, 0, rfl, Nat.le_refl _, by decide, fun h => absurd rfl h, fun ad e _ => by (cases e), rfl, by simp, hkW, hsW, hAW, hgW, h0⟩
 case round =>
  obtain ⟨pre, S, c, rfl, hcl, hcM, hS, hSg, rfl, hle, hkr, hsr, hAr, hgr, hJs⟩ := hrel
  clear hkW hsW hAW hgW h0
  obtain ⟨t, ht⟩ : ∃ t, pre.length = t := ⟨_, rfl⟩
  rw [ht] at hle hcl hS hSg
  have HT := Lib.hid ht
  have hpl : ((pre.length : Nat) : Int) = (t : Int) := by rw [ht]
  rw [ht]
  clear hpl ht
  by_cases hlt : t < 255
  ·obtain ⟨L, hL⟩ : ∃ q, Hm.tags key name t = q := ⟨_, rfl⟩
   have hLl : L.length <= 32 := by
    rw [<- hL]
    rcases t with _ | t
    ·simp [Hm.tags]
    ·rw [Hm.tags_len]; omega
   obtain ⟨T, hTg⟩ : ∃ q, Hm.tags key name (t + 1) = q := ⟨_, rfl⟩
   have hTl : T.length = 32 := by rw [<- hTg]; exact Hm.tags_len _ _ _
   obtain ⟨wc, cp, hcv, hrc, hcp1, hcp2, hLc⟩ := conv_rd wr name (by omega)
   have hflat : [L, name, [UInt8.ofNat (t + 1)]].flatten = L ++ name ++ [UInt8.ofNat (t + 1)] := by simp
   have htag : Hm.tag key (L ++ name ++ [UInt8.ofNat (t + 1)]) = T := by rw [<- hTg, <- hL]; rfl
   rw [hL] at hcl hS hSg ⊢
   have HTL := Lib.hid hTl
   have HTG := Lib.hid hTg
   have HFL := Lib.hid hflat
   have HTAG := Lib.hid htag
   clear hL hTg hTl hflat htag
   have hS1 := hS.later hLc
   have hA1 := hAr.later hLc
   have hb1 : Rd (wc.alloc (.cells #[.int .u8 ((t : Int) + 1)] 5)) (some ⟨wc.heap.size, 0, none⟩) [UInt8.ofNat (t + 1)] := Rd.byte1 (by rw [UInt8.toNat_ofNat']; omega)
   have hrows := RdsC.three 60 (b := wc.heap.size + 1) (World.size_alloc wc _) (hS1.alloc (.cells #[.int .u8 ((t : Int) + 1)] 5)) rfl hcl hcM (hrc.alloc _) rfl hcp1 hcp2 hb1 rfl (Nat.le_refl 1) (by decide)
   have hcall := hmTag_any A n ca key (some ⟨wc.heap.size + 1, 0, none⟩) 3 3 _ _ HN.out hc hcm hnm ((hA1.alloc _).alloc _) rfl (by decide) (by rw [HFL.out]; simp; omega) hrows
   rw [HFL.out, HTAG.out] at hcall
   have HC := Lib.hid hcall
   have hLw : Later wr ((wc.alloc (.cells #[.int .u8 ((t : Int) + 1)] 5)).alloc (.cells #[.slice S L.length c, .slice (some ⟨wr.heap.size, 0, none⟩) name.length cp, .slice (some ⟨wc.heap.size, 0, none⟩) 1 1] 60)) := (hLc.alloc _).alloc _
   have HLW := Lib.hid hLw
   clear hcall hrows hb1 hS1 hA1 hrc hLc hLw
   refine wpIn_wide.2 ?_
   go_upto_region 5 with (first
    | (go_at_call 73; refine HC.out.mono ?_; rintro e w2 ⟨rfl, hb2⟩; obtain ⟨w3, hst, hr3, hg3⟩ := storeH (a := []) (b := T) (by simp) (by rw [HTL.out]; omega) (Row.new w2 25 (hC [])))
    | (with_reducible refine wpList_alloc rfl 25 rfl (allocH _) ?_)
    | (refine wpList_store rfl 25 (.tmp 6) (.tmp 19) rfl (.pointer (some ⟨w2.heap.size, 0, none⟩)) (.agg (hC T)) rfl rfl hst ?_)
    | fail)
   have hL2 : Later wr w2 := Later.step HLW.out hb2
   have hL3 : Later wr w3 := Below.grown (hL2.alloc _) hg3 (by have := hL2.size; simp only [World.size_alloc]; omega) (fun j e => by cases e; exact hL2.size)
   obtain ⟨g6, hg6⟩ : ∃ q, q = w2.heap.size := ⟨_, rfl⟩
   have hg6r : wr.heap.size <= g6 := by rw [hg6]; exact hL2.size
   rw [<- hg6] at hr3 ⊢
   have hJ3 := HJ.out pre wr w3 none hJs (grown_of_below hL3) (fun r e => by cases e)
   have hld3 := loadH HTL.out hr3
   have hk3 := hL3.cell hkr
   have hs3 := hL3.cell hsr
   have hA3 := hAr.later hL3
   have hS3 := rd_hash HTL.out hr3
   have hg83 : g8 < w3.heap.size := Nat.lt_of_lt_of_le hgr hL3.size
   have hg6n : g6 ≠ g8 := by omega
   clear hst hg3 hL2 hb2 hg6 HC HLW hL3 hcv hr3
   go_upto_region 6 with (first
    | (refine hm_wpList_slice0 rfl 25 (.tmp 6) rfl (.pointer (some ⟨g6, 0, none⟩)) rfl (hm_sliceHash _) ?_)
    | fail)
   refine (wpIn_wide (n := n1)).1 ?_
   obtain ⟨fn, tmps, assign, body, hy, hR⟩ := HY.out pre T w3 hJ3 ⟨by rw [HT.out, HTG.out], by rw [HT.out]; exact hlt⟩
   gi_wp2_with (first
    | (refine wpListIn_load rfl 25 (.tmp 6) rfl (.pointer (some ⟨g6, 0, none⟩)) rfl hld3 ?_)
    | fail)
   refine hR.mono ?_
   rintro e W5 (⟨rfl, hJ5, hk5⟩ | ⟨rfl, hJx5⟩)
   ·have hk5' := hk5.cell hkg hk3
    have hs5' := hk5.cell hsg hs3
    have hA5' := hk5.rd hA3 hAg
    have hS5' := hk5.rd hS3 (fun ad e _ => by cases e; exact hg6n)
    have hg85 := Nat.lt_of_lt_of_le hg83 hk5.size
    have hln : (pre ++ [T]).length = t + 1 := by rw [List.length_append, HT.out]; rfl
    have HLN := Lib.hid hln
    clear hln hk5 hk3 hs3 hA3 hS3 hy hR
    gi_wp2
    go_wp2_with fail
    go_roundw
    case rel => exact ⟨pre ++ [T], some ⟨g6, 0, none⟩, 32, by rw [HLN.out, HTG.out, HTL.out], by rw [HLN.out, HTG.out, HTL.out]; exact Nat.le_refl _, by decide, by rw [HLN.out, HTG.out]; exact hS5', (fun ad e _ => by (cases e); exact hg6n), by rw [HLN.out]; go_num, by rw [HLN.out]; omega, hk5', hs5', hA5', hg85, hJ5⟩
    case measure => simp [intOf]; omega
   ·gi_wp2
    go_wp2_with fail
    rw [Exit.noGoto_normal]
    go_end0
    exact ⟨⟨_, rfl⟩, .inr ⟨_, trivial, hJx5⟩⟩
  ·gi_wp2
   rw [Exit.noGoto_normal]
   go_end0
   exact ⟨⟨_, rfl⟩, .inl ⟨pre, by rw [HT.out]; omega, hJs⟩⟩
end Go.Proofs.YtloiaaolnfimgaaGreat
namespace Go.Proofs.YtloiaaolnfimgaaGreat
open Go.RowKit Go.Shelf
attribute [local go_sem] Oper.semAt_some
section
variable {F : Fence} {n : Nat} {P : Program} {w : World} {ops : Array Oper} {rest : List Oper} {o : Oper} {a : Act} {Q : Exit -> Act -> World -> Prop}
theorem wpListIn_allocR (hgd : o.guard = none) (T : TypeId) (ho : o.op = .alloc T) {v : Value} {w' : World} (hr : (Instr.alloc T true (.tuple #[])).run P w = .ok v w')
  (h : wpListIn F n P ops Q rest (a.put o.dst v) w') : wpListIn F n P ops Q (o :: rest) a w := by
 refine wpListIn_plain hgd fun K hK => ?_
 unfold Oper.wpIn
 refine ⟨?_, ?_⟩
 ·simp [Oper.about, ho]
 ·rw [Oper.semAt_plain F _ _ (by rw [ho]; intro c hc'; cases hc')]
  simp [execOp, ho, hr, Result.andThen]
  exact hK _ _ h
theorem wpListIn_storeR (hgd : o.guard = none) (T : TypeId) (x y : Operand) (ho : o.op = .store T x y) (vx vy : Value) (hx : a.eval x = vx) (hy : a.eval y = vy) {w' : World} (hr : (Instr.storeAt T vx vy).run P w = .ok () w')
  (h : wpListIn F n P ops Q rest (a.put o.dst undef) w') : wpListIn F n P ops Q (o :: rest) a w := by
 refine wpListIn_plain hgd fun K hK => ?_
 unfold Oper.wpIn
 refine ⟨?_, ?_⟩
 ·simp [Oper.about, ho]
 ·rw [Oper.semAt_plain F _ _ (by rw [ho]; intro c hc'; cases hc')]
  simp [execOp, ho, hx, hy, hr, Result.andThen]
  exact hK _ _ h
end
theorem KeepsFrom.hm_of_later {B : Nat} {W W' : World} (h : Later W W') : KeepsFrom B W W' := ⟨h.size, fun k o _ hk _ => (Below.block h k (Array.getElem?_eq_some_iff.1 hk).1).trans hk⟩
def KeepA (X Y : World) : Prop := ∀ (b : Nat) (cs : Array Value) (t : TypeId) (fr : Nat × Nat), X.heap[b]? = some (Obj.cells cs t fr) -> Y.heap[b]? = X.heap[b]?
theorem KeepA.of {X Y : World} (h : ∀ (b : Nat) (cs : Array Value) (t : TypeId) (fr : Nat × Nat), X.heap[b]? = some (Obj.cells cs t fr) -> Y.heap[b]? = X.heap[b]?) : KeepA X Y := h
theorem KeepA.row {X Y : World} (h : KeepA X Y) {g : Nat} {t : TypeId} {cs : Array Value} (hr : Row X g t cs) : Row Y g t cs := (h g cs t (0, 0) hr).trans hr
theorem KeepA.cell {X Y : World} (h : KeepA X Y) {b o : Nat} {v : Value} (hc : X.cell? ⟨b, o, none⟩ = some v) : Y.cell? ⟨b, o, none⟩ = some v := by
 obtain ⟨cs, t, fr, e⟩ := cells_of_cell hc
 have := h b cs t fr e
 unfold World.cell? at hc ⊢
 simp only [this]
 exact hc
theorem KeepA.rd {X Y : World} (h : KeepA X Y) {A : Option Addr} {l : List UInt8} (hr : Rd X A l) : Rd Y A l := fun hne => by
 obtain ⟨b, o, e, hc⟩ := hr hne
 exact ⟨b, o, e, fun i hi => h.cell (hc i hi)⟩
theorem stab_all {β : Type} {B : Nat} {I : β -> World -> Prop} (h : ∀ s X Y, KeepA X Y -> I s X -> I s Y) : Stab B (fun _ => False) I := fun s X Y row hs hg hr => h s X Y (KeepA.of fun b cs t fr hb => hg.block b (Array.getElem?_eq_some_iff.1 hb).1 (fun e => by
 rcases hr b e.symm with h | ⟨_, o, ho, hc⟩
 ·exact h
 ·rw [hb] at ho
  cases ho
  cases hc)) hs
def Out (key name : List UInt8) (g5 g8 n k : Nat) (W : World) : Prop :=
 ∃ (S : Option Addr) (c : Nat), Row W g8 60 #[.slice S (32 * k) c] /\ 32 * k <= c /\ c <= 9223372036854775807 /\ Rd W S (Hm.all key name k) /\ (∀ ad, S = some ad -> Hm.all key name k ≠ [] -> ad.block ≠ g8) /\ Row W g5 3 #[.int .i64 (n : Int)]
theorem Out.keep {key name : List UInt8} {g5 g8 n k : Nat} {X Y : World} (h : Out key name g5 g8 n k X) (hk : KeepA X Y) : Out key name g5 g8 n k Y := by
 obtain ⟨S, c, h1, h2, h3, h4, h5, h6⟩ := h
 exact ⟨S, c, hk.row h1, h2, h3, hk.rd h4, h5, hk.row h6⟩
theorem Out.later {key name : List UInt8} {g5 g8 n k : Nat} {X Y : World} (h : Out key name g5 g8 n k X) (hL : Later X Y) : Out key name g5 g8 n k Y :=
 h.keep (KeepA.of fun b cs t fr hb => Below.block hL b (Array.getElem?_eq_some_iff.1 hb).1)
def Pr.rdN (g n : Nat) (l : List UInt8) : Pr := ⟨fun v W => ∃ S c, v = .slice S n c /\ n <= c /\ c <= 9223372036854775807 /\ Rd W S l /\ (∀ ad, S = some ad -> l ≠ [] -> ad.block ≠ g), fun _ _ _ ⟨S, c, e, h1, h2, h3, h4⟩ hL => ⟨S, c, e, h1, h2, h3.later hL, h4⟩⟩
theorem hm_loadSl {b o : Nat} {S : Option Addr} {m c : Nat} {W : World} (hc : W.cell? ⟨b, o, none⟩ = some (.slice S m c)) : (Instr.loadAt 60 (.pointer (some ⟨b, o, none⟩))).run Tryz.prog W = .ok (.slice S m c) W := by
 go_simp
theorem storeSl {b o : Nat} {S : Option Addr} {m c : Nat} {v : Value} {W : World} (hc : W.cell? ⟨b, o, none⟩ = some v) (hf : W.frozen? ⟨b, o, none⟩ = false) : (Instr.storeAt 60 (.pointer (some ⟨b, o, none⟩)) (.slice S m c)).run Tryz.prog W = .ok () (W.setCell ⟨b, o, none⟩ (.slice S m c)) := by
 go_simp
theorem expand_any (A : Option Addr) (m ca : Nat) (key name : List UInt8) (n : Nat) (w : World) (hm : key.length = m) (hc : m <= ca) (hcm : ca <= 9223372036854775807) (hmm : m <= 1000000) (hnl : name.length <= 1000000) (hr : Rd w A key) (hn : n <= 8160) :
  Calls Tryz.prog 76 #[.slice A m ca, .string ⟨name.toArray⟩, .int .i64 (n : Int)] w fun e w' => ∃ v, e = .returned (.tuple #[v, .int .i64 0]) /\ Own 5 w' w.heap.size v (Hm.expand key name n) /\ Below w.heap.size w w' := by
 have hd0 : decide ((n : Int) < 0) = false := by simp
 have hd1 : decide ((8160 : Int) < (n : Int)) = false := by simp; omega
 refine (callsIn_wide (n := 6)).1 ?_
 refine callsIn_of_wp_marks Tryz.func76 rfl trivial ?_ rfl
 simp only [Tryz.ntmps76, List.size_toArray, List.length_cons, List.length_nil, Nat.reduceAdd, Nat.reduceSub, Array.replicate_succ, Array.replicate_zero, List.push_toArray, List.append_toArray, List.nil_append, List.cons_append]
 refine wpIn_wide.2 ?_
 go_upto_region 4 with fail
 obtain ⟨g5, hg5⟩ : ∃ q, q = w.heap.size := ⟨_, rfl⟩
 have hr5 : Row ((w.alloc (.cells #[.int .i64 (n : Int)] 3)).alloc (.cells #[.slice none 0 0] 60)) g5 3 #[.int .i64 (n : Int)] := (Row.newAt hg5.symm).alloc _
 have hr8 : Row ((w.alloc (.cells #[.int .i64 (n : Int)] 3)).alloc (.cells #[.slice none 0 0] 60)) (g5 + 1) 60 #[.slice none 0 0] := Row.newAt (by simp only [World.size_alloc]; omega)
 have hL0 : Later w ((w.alloc (.cells #[.int .i64 (n : Int)] 3)).alloc (.cells #[.slice none 0 0] 60)) := ((Later.refl w).alloc _).alloc _
 have hg8w : w.heap.size < g5 + 1 := by omega
 rw [<- hg5]
 have HG5 := Lib.hid hg5
 clear hg5
 generalize (w.alloc (.cells #[.int .i64 (n : Int)] 3)).alloc (.cells #[.slice none 0 0] 60) = w2 at *
 obtain ⟨g8, hg8⟩ : ∃ q, g5 + 1 = q := ⟨_, rfl⟩
 rw [hg8] at hr8 hg8w ⊢
 have HG8 := Lib.hid hg8
 clear hg8 hd0 hd1
 have hrd2 := hr.later hL0
 go_wp2_with (first
  | (go_at_call 121; refine (tags_any _ _ _ _ _).mono ?_; rintro e w3 ⟨gk, gs, rfl, hk3, hs3, hgk, hgs, hL3⟩)
  | fail)
 have hr53 := hr5.later hL3
 have hr83 := hr8.later hL3
 have hrd3 := hrd2.later hL3
 have hL03 : Later w w3 := hL0.step hL3
 have hg82 := hr8.lt
 have hAg : ∀ ad, A = some ad -> key ≠ [] -> ad.block ≠ g8 := fun ad e hne => by
  obtain ⟨b, o, e', hcx⟩ := hr hne
  have := block_lt_of_cell (hcx 0 (List.length_pos_iff.2 hne))
  rw [e] at e'
  injection e' with e'
  subst e'
  simp only at this ⊢
  omega
 have hseq := tags1_seq key name gk gs g8 A m ca w3 5 (by omega) hm hc hcm hmm hnl hrd3 hAg hk3 hs3 (by omega) (by omega) hr83.lt
 have hout0 : Out key name g5 g8 n 0 w3 := ⟨none, 0, hr83, Nat.le_refl _, by decide, fun h => absurd rfl h, (fun ad e _ => by cases e), hr53⟩
 have hg83 := hr83.lt
 have HS := Lib.hid hseq
 have HO := Lib.hid hout0
 clear hr5 hr8 hL0 hrd2 hL3 hr53 hr83 hrd3 hk3 hs3 hgk hgs hAg hseq hout0 hr hm
 refine name_frame fun T0 hT0 => ?_
 refine (wpIn_wide (n := 6)).1 ?_
 refine wpIn_range_D rfl (by omega) (gf := 156) (lb := #[.pointer (some ⟨gk, 0, none⟩), .pointer (some ⟨gs, 0, none⟩)]) (by rw [hT0]; rfl) trivial (enters_of Tryz.func156 (by kernel_rfl) rfl)
  HS.out (fun r e => e.elim) (fun h k => h.trans k) (fun W l o ob hl ho hc => KeepC.put W l o ob ho hc) (Below.refl _ _) (fun _ => rfl)
  (fun pre W => Out key name g5 g8 n pre.length W /\ Below w.heap.size w W) (fun c _ W => (c = Code.exit 0 /\ ∃ k, n <= 32 * k /\ Out key name g5 g8 n k W) /\ Below w.heap.size w W)
  ((stab_all (fun s X Y hk h => h.keep hk)).and (stab_below (Nat.le_refl _) hL03.size (fun r e => e.elim)))
  (fun c => (stab_all (fun s X Y hk h => ⟨h.1, h.2.elim fun k h => ⟨k, h.1, h.2.keep hk⟩⟩)).and (stab_below (Nat.le_refl _) hL03.size (fun r e => e.elim)))
  ⟨HO.out, hL03⟩
  (fun pre x a' W => ∃ gt, a' = { tmps := (T0.setIfInBounds 19 (.agg (hC x))).setIfInBounds 9 (.pointer (some ⟨gt, 0, none⟩)), defers := [] } /\ Row W gt 25 (hC x) /\ gt ≠ g8)
  (fun pre x a' => stab_all (fun s X Y hk h => by obtain ⟨gt, h1, h2, h3⟩ := h; exact ⟨gt, h1, hk.row h2, h3⟩)) ?assign ?body ?done ?stop
 case assign =>
  intro l pre x W K hi hok hK
  have hxl : x.length <= 32 := by rw [hok.1, Hm.tags_len]; omega
  obtain ⟨w9, hst, hr9, hg9⟩ := storeH (a := []) (b := x) (by simp) hxl (Row.new W 25 (hC []))
  have HK := Lib.hid hK
  have HI := Lib.hid hi
  have hL9 : Later W w9 := Below.grown ((Later.refl W).alloc _) hg9 (by simp only [World.size_alloc]; omega) (fun j e => by cases e; exact Nat.le_refl _)
  have hWg : g8 < W.heap.size := by
   obtain ⟨S, c, h1, _⟩ := hi.1
   exact h1.lt
  clear hK hi hok hg9
  have e19 : ((#[19] : Array Tmp).zip #[Value.agg (hC x)]).foldl (fun t (p, v) => t.setIfInBounds p v) T0 = T0.setIfInBounds 19 (.agg (hC x)) := by simp
  rw [e19, hT0]
  clear e19
  simp only [List.setIfInBounds_toArray, List.set_cons_succ, List.set_cons_zero]
  gi_wp2_with (first
   | (refine wpListIn_allocR rfl 25 rfl (allocH _) ?_)
   | (refine wpListIn_storeR rfl 25 (.tmp 9) (.tmp 19) rfl (.pointer (some ⟨W.heap.size, 0, none⟩)) (.agg (hC x)) rfl rfl hst ?_)
   | fail)
  exact HK.out _ _ (KeepsFrom.hm_of_later hL9) (KeepC.later hL9) ⟨HI.out.1.later hL9, HI.out.2.trans (hL9.below.mono HI.out.2.size)⟩ ⟨W.heap.size, by rw [hT0]; rfl, hr9, by omega⟩
 case body =>
  rintro l pre x a' W hl hlo ⟨hout, hb⟩ ⟨hx, hlt⟩ ⟨gt, rfl, hrt, hgt⟩
  have hout' := hout
  obtain ⟨S, c, hr8, hcl, hcM, hrS, hSg, hr5⟩ := hout
  have hxl : x.length = 32 := by rw [hx]; exact Hm.tags_len _ _ _
  have hal : (Hm.all key name pre.length).length = 32 * pre.length := Hm.all_len _ _ _
  have hnx : Hm.all key name (pre.length + 1) = Hm.all key name pre.length ++ x := by rw [Hm.all, hx]
  have hpl : (pre ++ [x]).length = pre.length + 1 := by simp
  have hc8 : W.cell? ⟨g8, 0, none⟩ = some (.slice S (32 * pre.length) c) := (hr8.cell 0).trans rfl
  have hf8 := hr8.frozen 0
  have hc5 : W.cell? ⟨g5, 0, none⟩ = some (.int .i64 (n : Int)) := (hr5.cell 0).trans rfl
  have HO := Lib.hid hout'
  have HX := Lib.hid hx
  have HXL := Lib.hid hxl
  have HPL := Lib.hid hpl
  have HNX := Lib.hid hnx
  have hWg := hr8.lt
  clear hx hxl hpl hnx hout'
  obtain ⟨k, hk⟩ : ∃ k, pre.length = k := ⟨_, rfl⟩
  rw [hk] at hlt hcl hrS hSg hal hc8 hr8
  rw [hk] at HO HX HPL HNX
  have HK := Lib.hid hk
  clear hk
  obtain ⟨q, hq⟩ : ∃ q, 32 * k = q := ⟨_, rfl⟩
  rw [hq] at hcl hc8 hal hr8
  have HQ := Lib.hid hq
  clear hq
  rw [hT0]
  clear hT0 HS
  simp only [List.setIfInBounds_toArray, List.set_cons_succ, List.set_cons_zero]
  by_cases hge : n <= q
  ·have hd : decide (n <= q) = true := by simpa using hge
   have hd' : decide ((n : Int) <= (q : Int)) = true := by simp; omega
   gi_wp2
   exact ⟨KeepsFrom.refl _ _, ⟨rfl, k, by rw [HQ.out]; exact hge, HO.out⟩, hb⟩
  ·have hd : decide (n <= q) = false := by simpa using hge
   have hd' : decide ((n : Int) <= (q : Int)) = false := by simp; omega
   obtain ⟨al, hal'⟩ : ∃ y, Hm.all key name k = y := ⟨_, rfl⟩
   rw [hal'] at hrS hSg hal
   rw [hal'] at HNX
   have HAL := Lib.hid hal
   have HJ : Hid (∀ gq W', Later W W' -> RdsC W' (some ⟨gq, 0, none⟩) [al, x] -> Calls Tryz.prog 122 #[.slice (some ⟨gq, 0, none⟩) 2 2] W' fun e W2 => ∃ v, e = .returned v /\ Later W' W2 /\ (Pr.rdN g8 (q + 32) (al ++ x)).R v W2) := Lib.hid (fun gq W' hL' hrr => by
    have := joined_any (some ⟨gq, 0, none⟩) 2 2 [al, x] W' rfl (by decide) (by simp only [List.flatten_cons, List.flatten_nil, List.append_nil, List.length_append, HXL.out, hal]; omega) hrr
    have hf : [al, x].flatten = al ++ x := by simp
    rw [hf] at this
    refine this.mono ?_
    rintro e W2 ⟨v, he, hown, hb2⟩
    obtain ⟨S2, c2, rfl, h1, h2, h3⟩ := hown.slice
    have hl2 : (al ++ x).length = q + 32 := by rw [List.length_append, hal, HXL.out]
    rw [hl2] at h1 he
    exact ⟨_, he, hb2, S2, c2, rfl, h1, by unfold maxLen at h2; omega, h3, fun ad e hne => by
     obtain ⟨b, o, e', _⟩ := h3 hne
     rw [e] at e'
     injection e' with e'
     have h4 := (hown.at_ b (by rw [e, e']; rfl)).1
     have h5 := hL'.size
     rw [e']
     simp only
     omega⟩)
   clear hal hal'
   gi_wp2
   refine wpIn_region_last (wide_round l) [Pr.eq (.slice S q c), Pr.eq (.slice (some ⟨gt, 0, none⟩) 32 32), Pr.rowsC 2 [al, x], Pr.rdN g8 (q + 32) (al ++ x)] (by kernel_rfl) (by kernel_rfl) (by kernel_rfl) (by kernel_rfl) (by kernel_rfl) (by kernel_rfl) rfl ⟨?_, ?_, ?_, ?_, trivial⟩ ?_
   ·exact fun ac W' hL he => stepOk_want rfl (op_load rfl (he.k 8) (hm_loadSl (hL.cell hc8)) rfl)
   ·exact fun ac W' hL he => stepOk_want rfl (op_slice (W' := W') rfl (he.k 9) rfl rfl rfl (hm_sliceHash W') rfl)
   ·intro ac W' hL he; refine stepOk_want rfl ?_; have e0 : ac.eval (.tmp 24) = .slice S q c := he.g 0 24; have e1 : ac.eval (.tmp 25) = .slice (some ⟨gt, 0, none⟩) 32 32 := he.g 1 25; exact op_buildSlice (W' := _) (vs := #[(0, .slice S q c), (1, .slice (some ⟨gt, 0, none⟩) 32 32)]) rfl (by simp only [List.map_toArray, List.map_cons, List.map_nil, e0, e1]) (run_rows2 W' _ _ _ _ _ _) ((Later.refl W').alloc _) ⟨_, rfl, (RdsW.two (w0 := W') 60 rfl (hrS.later hL) HAL.out hcl hcM (rd_hash HXL.out (hrt.later hL)) HXL.out (Nat.le_refl _) (by decide)).toC ((Later.refl W').alloc _)⟩
   ·intro ac W' hL he; refine stepOk_want rfl ?_; obtain ⟨gq, eq, hrr⟩ : ∃ g, ac.eval (.tmp 26) = .slice (some ⟨g, 0, none⟩) 2 2 /\ RdsC W' (some ⟨g, 0, none⟩) [al, x] := he.g 2 26; exact op_callF (vs := #[.slice (some ⟨gq, 0, none⟩) 2 2]) rfl (by simp only [List.map_toArray, List.map_cons, List.map_nil, eq]) (enters_of Tryz.func122 (by kernel_rfl) rfl) (HJ.out gq W' hL hrr)
   ·intro xs W2 hL hx hk2 hg2
    have e1 : _ = Value.pointer (some ⟨g8, 0, none⟩) := hk2 (.tmp 8) (by kernel_rfl)
    have e2 := hg2 3 27 (by decide) (by kernel_rfl)
    obtain ⟨S2, c2, v3, h1, h2, h3, h4⟩ : ∃ S2 c2, xs 3 = .slice S2 (q + 32) c2 /\ q + 32 <= c2 /\ c2 <= 9223372036854775807 /\ Rd W2 S2 (al ++ x) /\ (∀ ad, S2 = some ad -> al ++ x ≠ [] -> ad.block ≠ g8) := hx 3 (by decide)
    rw [v3] at e2
    have hr82 := hr8.later hL
    refine last_store rfl rfl e1 e2 (storeSl (hL.cell hc8) (hr82.frozen 0)) ?_
    have hr83 := hr82.set 0 (.slice S2 (q + 32) c2)
    have hgs := grown_set W2 g8 0 (.slice S2 (q + 32) c2)
    have hkc : KeepC g8 W (W2.setCell ⟨g8, 0, none⟩ (.slice S2 (q + 32) c2)) := (KeepC.later hL).trans (KeepC.grown hgs)
    have hrd3 := (KeepC.grown hgs).rd h3 h4
    have hr53 := (hr5.later hL).grown hgs (by intro e; injection e with e; have := HG8.out; omega)
    have hb3 := (hb.trans (hL.below.mono hb.size)).grown hgs (by have := hb.size; have := hL.size; omega) (fun j e => by cases e; omega)
    have hkf : KeepsFrom w3.heap.size W (W2.setCell ⟨g8, 0, none⟩ (.slice S2 (q + 32) c2)) := (KeepsFrom.hm_of_later hL).trans (KeepsFrom.of_grownBy hgs (fun j e => by cases e; exact hg83))
    have hfin : Out key name g5 g8 n (pre ++ [x]).length (W2.setCell ⟨g8, 0, none⟩ (.slice S2 (q + 32) c2)) := by
     rw [HPL.out]
     refine ⟨S2, c2, ?_, by have := HQ.out; omega, h2, by rw [HNX.out]; exact hrd3, by rw [HNX.out]; exact h4, hr53⟩
     rw [show 32 * (k + 1) = q + 32 from by have := HQ.out; omega]
     exact hr83
    exact ⟨hkf, hkc, hfin, hb3⟩
 case done =>
  rintro D xs W hD hS ⟨hout, hb⟩ hK
  have hk : n <= 32 * xs.length := by rw [hS]; omega
  generalize xs.length = k at *
  clear hS
  obtain ⟨S, c, hr8, hcl, hcM, hrS, hSg, hr5⟩ := hout
  have hc8 : W.cell? ⟨g8, 0, none⟩ = some (.slice S (32 * k) c) := (hr8.cell 0).trans rfl
  have hc5 : W.cell? ⟨g5, 0, none⟩ = some (.int .i64 (n : Int)) := (hr5.cell 0).trans rfl
  have hex := Hm.expand_of key name n k hk
  have hexl := Hm.expand_len key name n
  have hrn : Rd W S (Hm.expand key name n) := by rw [<- hex]; exact hrS.take n
  obtain ⟨ex, hexe⟩ : ∃ y, Hm.expand key name n = y := ⟨_, rfl⟩
  rw [hexe] at hex hexl hrn
  have HEX := Lib.hid hexe
  clear hexe
  have hsl : ∀ w' : World, (Instr.sliceAt 60 (.slice S (32 * k) c) none (some (.int .i64 (n : Int))) none).run Tryz.prog w' = .ok (.slice S n c) w' :=
   run_slice_upto (k := n) Tryz.underlying60 byteInfo8 (by omega)
  have hj := joined_any (some ⟨W.heap.size, 0, none⟩) 1 1 [ex] (W.alloc (.cells #[.slice S n c] 60)) rfl (by decide) (by simp only [List.flatten_cons, List.flatten_nil, List.append_nil, hexl]; omega) (RdsC.one 60 rfl hrn hexl (by omega) hcM)
  have hf1 : [ex].flatten = ex := by simp
  rw [hf1] at hj
  have HSL := Lib.hid hsl
  have hbs := hb.size
  have hD2 : w.heap.size <= D := Nat.le_trans hL03.size hD
  rw [hT0]
  clear hT0 HS HO hr8 hr5 hex hexl hrn hf1 hsl
  go_upto_region 8 with fail
  go_wp2_with (first
   | (refine wpList_sliceR rfl 60 (.tmp 28) (.tmp 29) rfl (.slice S (32 * k) c) rfl (.int .i64 (n : Int)) rfl (HSL.out _) ?_)
   | (refine hm_wpList_buildSl rfl 142 1 _ rfl #[(0, .slice S n c)] rfl (hm_build1S _ _ _ _) ?_)
   | (go_at_call 122; refine hj.mono ?_; clear hj; rintro e W9 ⟨v, rfl, hown, hb9⟩)
   | fail)
  have hb9' : Below (W.heap.size + 1) (W.alloc (.cells #[.slice S n c] 60)) W9 := by simpa using hb9
  have hLW : Later W W9 := ((Later.refl W).alloc _).call hb9
  have hK9 : W9.heap[D]? = some (.deferred (some [])) := (Below.block hLW D (Array.getElem?_eq_some_iff.1 hK).1).trans hK
  refine ⟨by simp, .inl ⟨_, _, rfl, run_takeDeferred hK9, ?_⟩⟩
  refine ⟨_, results_tmp2 rfl _ _ _, ?_⟩
  have hbW : Below w.heap.size w W9 := hb.trans (hLW.below.mono hbs)
  have hDn : v.ownBlock ≠ some D := fun e => by
   have := (hown.at_ D e).1
   have h2 := (Array.getElem?_eq_some_iff.1 hK).1
   simp only [World.size_alloc] at this
   omega
  exact ⟨v, rfl, by rw [HEX.out]; exact Own.keep (w' := _) (hown.mono (b' := w.heap.size) (by simp only [World.size_alloc]; omega)) (fun b _ e => World.putObj_heap_other (by intro e2; subst e2; exact hDn e)), hbW.trans (belowK_b (w := w) (Nat.le_refl _) W9 D _ _ hD2 hK9 rfl rfl)⟩
 case stop =>
  rintro D c' pre W hD hSp ⟨⟨rfl, k, hk, hout⟩, hb⟩ hK
  gi_wp2
  obtain ⟨S, c, hr8, hcl, hcM, hrS, hSg, hr5⟩ := hout
  have hc8 : W.cell? ⟨g8, 0, none⟩ = some (.slice S (32 * k) c) := (hr8.cell 0).trans rfl
  have hc5 : W.cell? ⟨g5, 0, none⟩ = some (.int .i64 (n : Int)) := (hr5.cell 0).trans rfl
  have hex := Hm.expand_of key name n k hk
  have hexl := Hm.expand_len key name n
  have hrn : Rd W S (Hm.expand key name n) := by rw [<- hex]; exact hrS.take n
  obtain ⟨ex, hexe⟩ : ∃ y, Hm.expand key name n = y := ⟨_, rfl⟩
  rw [hexe] at hex hexl hrn
  have HEX := Lib.hid hexe
  clear hexe
  have hsl : ∀ w' : World, (Instr.sliceAt 60 (.slice S (32 * k) c) none (some (.int .i64 (n : Int))) none).run Tryz.prog w' = .ok (.slice S n c) w' :=
   run_slice_upto (k := n) Tryz.underlying60 byteInfo8 (by omega)
  have hj := joined_any (some ⟨W.heap.size, 0, none⟩) 1 1 [ex] (W.alloc (.cells #[.slice S n c] 60)) rfl (by decide) (by simp only [List.flatten_cons, List.flatten_nil, List.append_nil, hexl]; omega) (RdsC.one 60 rfl hrn hexl (by omega) hcM)
  have hf1 : [ex].flatten = ex := by simp
  rw [hf1] at hj
  have HSL := Lib.hid hsl
  have hbs := hb.size
  have hD2 : w.heap.size <= D := Nat.le_trans hL03.size hD
  rw [hT0]
  clear hT0 HS HO hr8 hr5 hex hexl hrn hf1 hsl
  go_upto_region 8 with fail
  go_wp2_with (first
   | (refine wpList_sliceR rfl 60 (.tmp 28) (.tmp 29) rfl (.slice S (32 * k) c) rfl (.int .i64 (n : Int)) rfl (HSL.out _) ?_)
   | (refine hm_wpList_buildSl rfl 142 1 _ rfl #[(0, .slice S n c)] rfl (hm_build1S _ _ _ _) ?_)
   | (go_at_call 122; refine hj.mono ?_; clear hj; rintro e W9 ⟨v, rfl, hown, hb9⟩)
   | fail)
  have hb9' : Below (W.heap.size + 1) (W.alloc (.cells #[.slice S n c] 60)) W9 := by simpa using hb9
  have hLW : Later W W9 := ((Later.refl W).alloc _).call hb9
  have hK9 : W9.heap[D]? = some (.deferred (some [])) := (Below.block hLW D (Array.getElem?_eq_some_iff.1 hK).1).trans hK
  refine ⟨by simp, .inl ⟨_, _, rfl, run_takeDeferred hK9, ?_⟩⟩
  refine ⟨_, results_tmp2 rfl _ _ _, ?_⟩
  have hbW : Below w.heap.size w W9 := hb.trans (hLW.below.mono hbs)
  have hDn : v.ownBlock ≠ some D := fun e => by
   have := (hown.at_ D e).1
   have h2 := (Array.getElem?_eq_some_iff.1 hK).1
   simp only [World.size_alloc] at this
   omega
  exact ⟨v, rfl, by rw [HEX.out]; exact Own.keep (w' := _) (hown.mono (b' := w.heap.size) (by simp only [World.size_alloc]; omega)) (fun b _ e => World.putObj_heap_other (by intro e2; subst e2; exact hDn e)), hbW.trans (belowK_b (w := w) (Nat.le_refl _) W9 D _ _ hD2 hK9 rfl rfl)⟩
end Go.Proofs.YtloiaaolnfimgaaGreat
namespace Go.Proofs.YtloiaaolnfimgaaGreat
open Go.RowKit
theorem refJoin_any (A : Option Addr) (n ca : Nat) (a : List UInt8) (B : Option Addr) (m cb : Nat) (b : List UInt8) (w : World) (hn : a.length = n) (hm : b.length = m) (hnm : n <= 100000000) (hmm : m <= 100000000) (ha : Rd w A a) (hb : Rd w B b) :
  Calls Tryz.prog 92 #[.slice A n ca, .slice B m cb] w fun e w' => ∃ v, e = .returned v /\ Own 5 w' w.heap.size v (a ++ b) /\ Below w.heap.size w w' := by
 have HN := Lib.hid hn
 have HM := Lib.hid hm
 clear hn hm
 go_enter Tryz.func92, Tryz.ntmps92
 go_wp2_with (first
  | (at_builtin; refine wpList_append_bytes rfl (.tmp 5) (.tmp 6) 60 rfl w.heap.size 5 Tryz.underlying60 byteInfo8 _ [] rfl (own_void w _ _ (Nat.le_refl _)) A n ca a rfl HN.out (ha.alloc _) (by simp; omega) (by simp) ?_; intro v1 w1 hown1 hg1 hat1; have hb1 : Below w.heap.size w w1 := (below_new w (.cells #[] 5)).grown hg1 (by simp) (fun j e => (own_void w 5 w.heap.size (Nat.le_refl _)).at_ j e |>.1))
  | (at_builtin; refine wpList_append_bytes rfl (.tmp 7) (.tmp 8) 60 rfl w.heap.size 5 Tryz.underlying60 byteInfo8 _ ([] ++ a) rfl hown1 B m cb b rfl HM.out (hb.below hb1) (by simp only [List.nil_append, HN.out]; omega) hb1.size ?_; intro v2 w2 hown2 hg2 hat2)
  | fail)
 go_ret
 exact ⟨v2, rfl, hown2, hb1.grown hg2 hb1.size (fun j e => (hown1.at_ j e).1)⟩
def turned (c : UInt8) (key : List UInt8) (k : Nat) : List UInt8 := Hm.turn c ((Hm.pad key).take k)
theorem turned_len (c : UInt8) (key : List UInt8) (k : Nat) (h : k <= 64) : (turned c key k).length = k := by
 rw [turned, Hm.turn_len, List.length_take, Hm.pad_len]; omega
theorem turned_step (c : UInt8) (key : List UInt8) (k : Nat) (h : k < 64) : turned c key (k + 1) = turned c key k ++ [(Hm.pad key)[k]'(by rw [Hm.pad_len]; exact h) ^^^ c] := by
 rw [turned, turned, List.take_succ_eq_append_getElem (by rw [Hm.pad_len]; exact h), Hm.turn, Hm.turn, List.map_append]
 rfl
theorem turned_all (c : UInt8) (key : List UInt8) : turned c key 64 = Hm.turn c (Hm.pad key) := by
 rw [turned, List.take_of_length_le (by rw [Hm.pad_len]; omega)]
theorem pad_short (key : List UInt8) (k : Nat) (h : k < (Hm.short key).length) : (Hm.pad key)[k]'(by have := Hm.short_le key; rw [Hm.pad_len]; omega) = (Hm.short key)[k] := by
 simp only [Hm.pad]
 rw [List.getElem_append_left h]
theorem pad_zero (key : List UInt8) (k : Nat) (h : (Hm.short key).length <= k) (hk : k < 64) : (Hm.pad key)[k]'(by rw [Hm.pad_len]; omega) = 0 := by
 simp only [Hm.pad]
 rw [List.getElem_append_right h]
 simp [Sha.zeros]
theorem refTag_any (A : Option Addr) (n ca : Nat) (key : List UInt8) (B : Option Addr) (m cb : Nat) (msg : List UInt8) (w : World) (hn : key.length = n) (hm : msg.length = m) (hnm : n <= 1000000) (hmm : m <= 1000000) (hca : n <= ca) (hcm : ca <= 9223372036854775807) (ha : Rd w A key) (hb : Rd w B msg) :
  Calls Tryz.prog 44 #[.slice A n ca, .slice B m cb] w fun e w' => e = .returned (.agg (hC (Hm.tag key msg))) /\ Below w.heap.size w w' := by
 have HN := Lib.hid hn
 have HM := Lib.hid hm
 clear hn hm
 obtain ⟨sk, hsk⟩ : ∃ q, Hm.short key = q := ⟨_, rfl⟩
 have hskl : sk.length <= 64 := by rw [<- hsk]; exact Hm.short_le key
 have hrow4 := Row.new w 25 (hC [])
 have hb4 := below_new w (.cells (hC []) 25)
 go_enter Tryz.func44, Tryz.ntmps44
 go_upto_if 13 with (first
  | (with_reducible refine wpList_alloc rfl 25 rfl (allocH _) ?_)
  | fail)
 obtain ⟨g, hg⟩ : ∃ q, q = w.heap.size := ⟨_, rfl⟩
 rw [<- hg] at hrow4 ⊢
 have hgle : w.heap.size <= g := by omega
 clear hg
 generalize w.alloc (.cells (hC []) 25) = w1 at *
 go_cut [0] from 5 to 16 (fun s W => ∃ S c, s = .slice S sk.length c /\ Rd W S sk /\ Later w1 W)
 case first =>
  by_cases h64 : 64 < n
  ·have hd : decide (64 < n) = true := by simpa using h64
   have hd' : decide ((64 : Int) < (n : Int)) = true := by simp; omega
   have hskH : Sha.sum key = sk := by rw [<- hsk]; exact (if_pos (by rw [HN.out]; omega)).symm
   have hsl : sk.length = 32 := by rw [<- hskH]; exact Sha.sum_len _
   have hcall := refShaSum_any A n ca key w1 HN.out (by omega) (ha.below hb4)
   rw [hskH] at hcall
   have HSL := Lib.hid hsl
   clear hsk hskH hsl
   go_wp2_with (first
    | (go_at_call 91; refine hcall.mono ?_; rintro e w2 ⟨rfl, hb2⟩; obtain ⟨w3, hst, hr3, hg3⟩ := storeH (a := []) (b := sk) (by simp) (by rw [HSL.out]; omega) (Row.new w2 25 (hC [])))
    | (with_reducible refine wpList_alloc rfl 25 rfl (allocH _) ?_)
    | (refine wpList_store rfl 25 (.tmp 5) (.tmp 15) rfl (.pointer (some ⟨w2.heap.size, 0, none⟩)) (.agg (hC sk)) rfl rfl hst ?_)
    | (refine hm_wpList_slice0 rfl 25 (.tmp 5) rfl (.pointer (some ⟨w2.heap.size, 0, none⟩)) rfl (hm_sliceHash _) ?_)
    | fail)
   go_meet
   have hL2 : Later w1 w2 := hb2
   exact ⟨some ⟨w2.heap.size, 0, none⟩, 32, by rw [HSL.out], rd_hash HSL.out hr3, Below.grown (hL2.alloc _) hg3 (by have := hL2.size; simp only [World.size_alloc]; omega) (fun j e => by cases e; exact hL2.size)⟩
  ·have hd : decide (64 < n) = false := by simpa using h64
   have hd' : decide ((64 : Int) < (n : Int)) = false := by simp; omega
   have hskH : key = sk := by rw [<- hsk]; exact (if_neg (by rw [HN.out]; omega)).symm
   go_wp2_with fail
   go_meet
   exact ⟨A, ca, by rw [<- hskH, HN.out], by rw [<- hskH]; exact ha.below hb4, Later.refl _⟩
 case rest =>
  obtain ⟨w5, rfl⟩ : ∃ y, y = wc := ⟨_, rfl⟩
  obtain ⟨S, c, rfl, hS, hLc⟩ := hcut
  have hr4 := hrow4.later hLc
  have hb5 : Below w.heap.size w w5 := hb4.trans (hLc.mono hb4.size)
  have hB := hb.below hb5
  have HSK := Lib.hid hsk
  have HGL := Lib.hid hgle
  have HG4 := Lib.hid hr4.lt
  clear hrow4 hb4 hLc ha hb hsk hgle
  go_wp2_with fail
  go_loopw [6, 7, 8] (fun u v t wr => ∃ k : Nat, k <= 64 /\ t = .int .i64 k /\ Own 5 wr w5.heap.size u (turned 54 key k) /\ Own 5 wr w5.heap.size v (turned 92 key k) /\ (∀ j, u.ownBlock = some j -> v.ownBlock ≠ some j) /\ Later w5 wr) (fun _ _ t _ => 64 - (intOf t).toNat)
  case atStart => exact ⟨0, by omega, rfl, Own.nil _ _ _, Own.nil _ _ _, fun j e => by simp [Value.ownBlock] at e, Later.refl _⟩
  case round =>
   obtain ⟨k, hk, rfl, hu, hv, hne, hL⟩ := hrel
   have hLs := hL.size
   by_cases hlt : k < 64
   ·have hu1 := turned_step 54 key k hlt
    have hv1 := turned_step 92 key k hlt
    have hul := turned_len 54 key k (by omega)
    have hvl := turned_len 92 key k (by omega)
    obtain ⟨x, hx⟩ : ∃ x, (Hm.pad key)[k]'(by rw [Hm.pad_len]; exact hlt) = x := ⟨_, rfl⟩
    rw [hx] at hu1 hv1
    have hx54 : bits .xor .u8 (x.toNat : Int) 54 = ((x ^^^ 54).toNat : Int) := by
     rw [show (54 : Int) = (((54 : UInt8).toNat : Nat) : Int) from rfl, u8_xor_nat _ _ x.toNat_lt (by decide), UInt8.toNat_xor]
    have hx92 : bits .xor .u8 (x.toNat : Int) 92 = ((x ^^^ 92).toNat : Int) := by
     rw [show (92 : Int) = (((92 : UInt8).toNat : Nat) : Int) from rfl, u8_xor_nat _ _ x.toNat_lt (by decide), UInt8.toNat_xor]
    have HU1 := Lib.hid hu1
    have HV1 := Lib.hid hv1
    generalize turned 54 key k = p at *
    generalize turned 92 key k = q at *
    clear hu1 hv1
    have hwr := hL.size
    go_upto_if 24 with fail
    go_cut [9] from 25 to 28 (fun s W => s = .int .u8 (x.toNat : Int) /\ W = wr)
    case first =>
     by_cases hks : k < sk.length
     ·obtain ⟨b, o, rfl, hc⟩ := (hS.later hL).at_ (k := k) hks
      have hxk : sk[k] = x := by
       have := pad_short key k (by rw [HSK.out]; exact hks)
       rw [hx] at this
       rw [this]
       simp only [HSK.out]
      rw [hxk] at hc
      clear hxk hx
      go_wp2_with fail
      go_meet
      exact ⟨rfl, rfl⟩
     ·have hx0 : x = 0 := by
       rw [<- hx]
       exact pad_zero key k (by rw [HSK.out]; omega) hlt
      subst hx0
      clear hx
      go_wp2_with fail
      go_meet
      exact ⟨rfl, rfl⟩
    case rest =>
     obtain ⟨wr, rfl⟩ : ∃ y, y = wc := ⟨_, rfl⟩
     obtain ⟨rfl, rfl⟩ := hcut
     clear hx
     go_wp2_with (first
      | (at_builtin; refine wpList_append_bytes rfl (.tmp 29) (.tmp 32) 60 rfl w5.heap.size 5 Tryz.underlying60 byteInfo8 _ p rfl (hu.alloc _) (some ⟨wr.heap.size, 0, none⟩) 1 1 [x ^^^ 54] rfl rfl (Rd.byte1 (by rw [UInt8.toNat_xor]; rfl)) (by omega) (by simp only [World.size_alloc]; omega) ?_; intro u2 w2 hu2 hg2 hat2; have hv2 := Own.keep (w' := w2) (hv.alloc _) (fun b hb e => hg2.block b hb (fun h => hne b h.symm e)))
      | (at_builtin; refine wpList_append_bytes rfl (.tmp 34) (.tmp 37) 60 rfl w5.heap.size 5 Tryz.underlying60 byteInfo8 _ q rfl (hv2.alloc _) (some ⟨w2.heap.size, 0, none⟩) 1 1 [x ^^^ 92] rfl rfl (Rd.byte1 (by rw [UInt8.toNat_xor]; rfl)) (by omega) (by have := hg2.size; simp only [World.size_alloc] at this ⊢; omega) ?_; intro v3 w3 hv3 hg3 hat3)
      | fail)
     have hat2' : u2.ownBlock = u6.ownBlock \/ u2.ownBlock = some (wr.alloc (.cells #[.int .u8 ((x.toNat ^^^ 54 : Nat) : Int)] 5)).heap.size := hat2
     have hat3' : v3.ownBlock = u7.ownBlock \/ v3.ownBlock = some (w2.alloc (.cells #[.int .u8 ((x.toNat ^^^ 92 : Nat) : Int)] 5)).heap.size := hat3
     have hv7 := hv.at_
     have hs2 := hg2.size
     have hs3 := hg3.size
     simp only [World.size_alloc] at hs2 hs3 hat2' hat3'
     have hd : ∀ j, u2.ownBlock = some j -> u7.ownBlock ≠ some j := fun j e h7 => by
      rcases hat2' with h | h
      ·exact hne j (h.symm.trans e) h7
      ·rw [h] at e
       injection e with e
       have := (hv7 j h7).2
       omega
     have hd3 : ∀ j, u2.ownBlock = some j -> v3.ownBlock ≠ some j := fun j e h3 => by
      rcases hat3' with h | h
      ·exact hd j e (h.symm.trans h3)
      ·rw [h] at h3
       injection h3 with h3
       have := (hu2.at_ j e).2
       omega
     have hu3 := Own.keep (w' := w3) (hu2.alloc _) (fun b hb e => hg3.block b hb (fun h => hd b e h.symm))
     have hL2 : Later w5 w2 := Below.grown (hL.alloc _) hg2 (by simp only [World.size_alloc]; omega) (fun j e => (hu.at_ j e).1)
     have hL3 : Later w5 w3 := Below.grown (hL2.alloc _) hg3 (by have := hL2.size; simp only [World.size_alloc]; omega) (fun j e => (hv2.at_ j e).1)
     go_roundw
     case rel => exact ⟨k + 1, by omega, by go_num, by rw [HU1.out]; exact hu3, by rw [HV1.out]; exact hv3, hd3, hL3⟩
     case measure => simp [intOf]; omega
   ·obtain rfl : k = 64 := by omega
    rw [turned_all] at hu hv
    obtain ⟨A6, c6, rfl, hc6, hm6, hr6⟩ := hu.slice
    obtain ⟨A7, c7, rfl, hc7, hm7, hr7⟩ := hv.slice
    have hp54 : (Hm.turn 54 (Hm.pad key)).length = 64 := by rw [Hm.turn_len, Hm.pad_len]
    have hp92 : (Hm.turn 92 (Hm.pad key)).length = 64 := by rw [Hm.turn_len, Hm.pad_len]
    obtain ⟨pm, hpm⟩ : ∃ q, Hm.turn 54 (Hm.pad key) ++ msg = q := ⟨_, rfl⟩
    obtain ⟨H, hH⟩ : ∃ q, Sha.sum pm = q := ⟨_, rfl⟩
    obtain ⟨pn, hpn⟩ : ∃ q, Hm.turn 92 (Hm.pad key) ++ H = q := ⟨_, rfl⟩
    obtain ⟨T, hT⟩ : ∃ q, Sha.sum pn = q := ⟨_, rfl⟩
    have hTT : Hm.tag key msg = T := by rw [<- hT, <- hpn, <- hH, <- hpm]; rfl
    have hHl : H.length = 32 := by rw [<- hH]; exact Sha.sum_len _
    have hTl : T.length = 32 := by rw [<- hT]; exact Sha.sum_len _
    have hpml : pm.length = 64 + m := by rw [<- hpm, List.length_append, hp54, HM.out]
    have hpnl : pn.length = 96 := by rw [<- hpn, List.length_append, hp92, hHl]
    rw [hp54] at hc6
    rw [hp92] at hc7
    rw [hp54, hp92]
    have HTT := Lib.hid hTT
    have hj1 := refJoin_any A6 64 c6 (Hm.turn 54 (Hm.pad key)) B m cb msg wr hp54 HM.out (by decide) (by omega) hr6 (hB.later hL)
    rw [hpm] at hj1
    have HJ2 : Hid (∀ gh W, Later wr W -> Row W gh 25 (hC H) -> Calls Tryz.prog 92 #[.slice A7 64 c7, .slice (some ⟨gh, 0, none⟩) 32 32] W fun e w' => ∃ v, e = .returned v /\ Own 5 w' W.heap.size v pn /\ Below W.heap.size W w') := Lib.hid (fun gh W hLW hrow => by
     have := refJoin_any A7 64 c7 (Hm.turn 92 (Hm.pad key)) (some ⟨gh, 0, none⟩) 32 32 H W hp92 hHl (by decide) (by decide) (hr7.later hLW) (rd_hash hHl hrow)
     rwa [hpn] at this)
    have HS1 : Hid (∀ (A : Option Addr) c W, Rd W A pm -> Calls Tryz.prog 91 #[.slice A pm.length c] W fun e w' => e = .returned (.agg (hC H)) /\ Below W.heap.size W w') := Lib.hid (fun A c W hr => by
     have := refShaSum_any A pm.length c pm W rfl (by omega) hr
     rwa [hH] at this)
    have HS2 : Hid (∀ (A : Option Addr) c W, Rd W A pn -> Calls Tryz.prog 91 #[.slice A pn.length c] W fun e w' => e = .returned (.agg (hC T)) /\ Below W.heap.size W w') := Lib.hid (fun A c W hr => by
     have := refShaSum_any A pn.length c pn W rfl (by omega) hr
     rwa [hT] at this)
    have hrg := hr4.later hL
    have hbr : Below w.heap.size w wr := hb5.trans (hL.below.mono hb5.size)
    have HHL := Lib.hid hHl
    have HTL := Lib.hid hTl
    clear hpm hH hpn hT hTT hHl hTl hpml hpnl hp54 hp92 hu hv hne hr6 hr7 hr4 hb5 hB
    go_upto_region 13 with (first
     | (go_at_call 92; refine hj1.mono ?_; clear hj1; rintro e w6 ⟨v, rfl, hown6, hb6⟩; obtain ⟨A8, c8, rfl, hc8, hm8, hr8⟩ := hown6.slice)
     | (go_at_call 91; refine (HS1.out _ _ _ hr8).mono ?_; rintro e w7 ⟨rfl, hb7⟩; obtain ⟨w8, hst8, hr10, hg8⟩ := storeH (a := []) (b := H) (by simp) (by rw [HHL.out]; omega) (Row.new w7 25 (hC [])))
     | (with_reducible refine wpList_alloc rfl 25 rfl (allocH _) ?_)
     | (refine wpList_store rfl 25 (.tmp 10) (.tmp 42) rfl (.pointer (some ⟨w7.heap.size, 0, none⟩)) (.agg (hC H)) rfl rfl hst8 ?_)
     | fail)
    have hL7 : Later wr w7 := Later.step hb6 hb7
    have hL8 : Later wr w8 := Below.grown (hL7.alloc _) hg8 (by have := hL7.size; simp only [World.size_alloc]; omega) (fun j e => by cases e; exact hL7.size)
    obtain ⟨g10, hg10⟩ : ∃ q, q = w7.heap.size := ⟨_, rfl⟩
    rw [<- hg10] at hr10 ⊢
    have hj2 := HJ2.out g10 w8 hL8 hr10
    have hrg8 := hrg.later hL8
    have hb8 : Below w.heap.size w w8 := hbr.trans (hL8.below.mono hbr.size)
    clear hst8 hg8 hg10 hL7 hb7 hb6 hown6 hr8 HJ2 HS1 hrg hL8
    go_wp2_with (first
     | (refine hm_wpList_slice0 rfl 25 (.tmp 10) rfl (.pointer (some ⟨g10, 0, none⟩)) rfl (hm_sliceHash _) ?_)
     | (go_at_call 92; refine hj2.mono ?_; clear hj2; rintro e w9 ⟨v, rfl, hown9, hb9⟩; obtain ⟨A9, c9, rfl, hc9, hm9, hr9⟩ := hown9.slice)
     | (go_at_call 91; refine (HS2.out _ _ _ hr9).mono ?_; rintro e wA ⟨rfl, hbA⟩; have hLA : Later w8 wA := Later.step hb9 hbA; obtain ⟨wB, hstB, hrB, hgB⟩ := storeH (a := []) (b := T) (by simp) (by rw [HTL.out]; omega) (hrg8.later hLA))
     | (refine wpList_store rfl 25 (.tmp 4) (.tmp 46) rfl (.pointer (some ⟨g, 0, none⟩)) (.agg (hC T)) rfl rfl hstB ?_)
     | fail)
    have hbB : Below w.heap.size w wA := hb8.trans (hLA.below.mono hb8.size)
    refine bodyPost_ret (results_cell_row rfl _ _ g 25 (hC T) (0, 0) _ rfl hrB Tryz.underlying25 rfl (by rw [hC_size _ (by rw [HTL.out]; omega)]; exact infoH)) rfl ⟨by rw [HTT.out], hbB.grown hgB hbB.size (fun j e => by cases e; exact HGL.out)⟩
theorem refExpand_any (A : Option Addr) (m ca : Nat) (key name : List UInt8) (n : Nat) (w : World) (hm : key.length = m) (hc : m <= ca) (hcm : ca <= 9223372036854775807) (hmm : m <= 1000000) (hnl : name.length <= 100000) (hr : Rd w A key) (hn : n <= 8160) :
  Calls Tryz.prog 88 #[.slice A m ca, .string ⟨name.toArray⟩, .int .i64 (n : Int)] w fun e w' => ∃ v, e = .returned (.tuple #[v, .int .i64 0]) /\ (∃ S c, v = .slice S n c /\ n <= c /\ c <= 9223372036854775807 /\ Rd w' S (Hm.expand key name n) /\ (∀ ad, S = some ad -> w.heap.size <= ad.block)) /\ Below w.heap.size w w' := by
 have hd0 : decide ((n : Int) < 0) = false := by simp
 have hd1 : decide ((8160 : Int) < (n : Int)) = false := by simp; omega
 have HMM := Lib.hid hm
 clear hm
 go_enter Tryz.func88, Tryz.ntmps88
 go_wp2_with fail
 go_loopw [8, 9, 10] (fun o v t wr => ∃ k : Nat, 32 * k <= n + 31 /\ t = .int .i64 ((k : Int) + 1) /\ Own 5 wr w.heap.size o (Hm.all key name k) /\ (∃ S c, v = .slice S (Hm.tags key name k).length c /\ Rd wr S (Hm.tags key name k)) /\ Later w wr) (fun o _ _ _ => n - lenV o)
 case atStart => exact ⟨0, by omega, rfl, Own.nil _ _ _, ⟨none, 0, rfl, fun h => absurd rfl h⟩, Later.refl _⟩
 case round =>
  obtain ⟨k, hk, rfl, hown, ⟨S, c, rfl, hrS⟩, hL⟩ := hrel
  obtain ⟨A8, c8, rfl, h81, h82, h8r⟩ := hown.slice
  have hal := Hm.all_len key name k
  rw [hal] at h81 ⊢
  clear hd0 hd1
  by_cases hlt : 32 * k < n
  ·have hd : decide (32 * k < n) = true := by simpa using hlt
   have hd' : decide (((32 * k : Nat) : Int) < (n : Int)) = true := by simp; omega
   obtain ⟨L, hLe⟩ : ∃ q, Hm.tags key name k = q := ⟨_, rfl⟩
   obtain ⟨T, hTe⟩ : ∃ q, Hm.tags key name (k + 1) = q := ⟨_, rfl⟩
   have hLl : L.length <= 32 := by
    rw [<- hLe]
    rcases k with _ | k
    ·simp [Hm.tags]
    ·rw [Hm.tags_len]; omega
   have hTl : T.length = 32 := by rw [<- hTe]; exact Hm.tags_len _ _ _
   have htag : Hm.tag key (L ++ name ++ [UInt8.ofNat (k + 1)]) = T := by rw [<- hTe, <- hLe]; rfl
   have hnx : Hm.all key name (k + 1) = Hm.all key name k ++ T := by rw [Hm.all, hTe]
   rw [hLe] at hrS ⊢
   have HTE := Lib.hid hTe
   have HTL := Lib.hid hTl
   have HTAG := Lib.hid htag
   have HNX := Lib.hid hnx
   have HAL := Lib.hid hal
   clear hLe hTe hTl htag hnx hal
   generalize Hm.all key name k = al at *
   obtain ⟨wc, cp, hcv, hrc, hcp1, hcp2, hLc⟩ := conv_rd wr name (by omega)
   have hj := refJoin_any S L.length c L (some ⟨wr.heap.size, 0, none⟩) name.length cp name wc rfl rfl (by omega) (by omega) (hrS.later hLc) hrc
   have hLs := hL.size
   have hk254 : k + 1 < 256 := by omega
   obtain ⟨msg, hmsg⟩ : ∃ q, L ++ name ++ [UInt8.ofNat (k + 1)] = q := ⟨_, rfl⟩
   have hml : msg.length <= 1000000 := by rw [<- hmsg]; simp; omega
   have HTAG2 : Hid (Hm.tag key msg = T) := Lib.hid (by rw [<- hmsg]; exact HTAG.out)
   have HMSG := Lib.hid hmsg
   have hLn : (L ++ name).length <= 200000 := by rw [List.length_append]; omega
   have hlen1 : (L ++ name).length + 1 <= 140737488355328 := by omega
   have HLE := Lib.hid hlen1
   have hbyte : ((k : Int) + 1) = ((UInt8.ofNat (k + 1)).toNat : Int) := by rw [UInt8.toNat_ofNat']; omega
   have HBY := Lib.hid hbyte
   have hown8 := hown
   have hLcw : Later w wc := hL.step hLc
   clear hmsg HTAG hbyte hLn hlen1
   go_upto_region 8 with (first
    | (go_at_call 92; refine hj.mono ?_; clear hj; rintro e w2 ⟨v2, rfl, hown2, hb2⟩)
    | (at_builtin; refine wpList_append_bytes rfl (.tmp 28) (.tmp 31) 60 rfl wc.heap.size 5 Tryz.underlying60 byteInfo8 _ (L ++ name) rfl (hown2.alloc _) (some ⟨w2.heap.size, 0, none⟩) 1 1 [UInt8.ofNat (k + 1)] rfl rfl (Rd.byte1 HBY.out) HLE.out (by have := Below.size hb2; simp only [World.size_alloc]; omega) ?_; intro v3 w3 hown3 hg3 hat3; rw [HMSG.out] at hown3; obtain ⟨A3, c3, rfl, h31, h32, h3r⟩ := hown3.slice; have hL2 : Later wc w2 := hb2; have hL3 : Later wc w3 := Below.grown (hL2.alloc _) hg3 (by have := hL2.size; simp only [World.size_alloc]; omega) (fun j e => (hown2.at_ j e).1); have htg := refTag_any A m ca key A3 msg.length c3 msg w3 HMM.out rfl hmm hml hc hcm (hr.later (hLcw.step hL3)) h3r; rw [HTAG2.out] at htg)
    | (go_at_call 44; refine htg.mono ?_; clear htg; rintro e w4 ⟨rfl, hb4⟩; obtain ⟨w5, hst5, hr5, hg5⟩ := storeH (a := []) (b := T) (by simp) (by rw [HTL.out]; omega) (Row.new w4 25 (hC [])))
    | (with_reducible refine wpList_alloc rfl 25 rfl (allocH _) ?_)
    | (refine wpList_store rfl 25 (.tmp 11) (.tmp 33) rfl (.pointer (some ⟨w4.heap.size, 0, none⟩)) (.agg (hC T)) rfl rfl hst5 ?_)
    | fail)
   have hL4 : Later wc w4 := hL3.step hb4
   have hL5 : Later wc w5 := Below.grown (hL4.alloc _) hg5 (by have := hL4.size; simp only [World.size_alloc]; omega) (fun j e => by cases e; exact hL4.size)
   obtain ⟨g11, hg11⟩ : ∃ q, q = w4.heap.size := ⟨_, rfl⟩
   rw [<- hg11] at hr5 ⊢
   have hLw5 : Later w w5 := hLcw.step hL5
   have h8r5 := h8r.later (hLc.step hL5)
   have hrt := rd_hash HTL.out hr5
   have hw5 := hLw5.size
   clear hst5 hg5 hg11 hL3 hL4 hL2 hb2 hb4 hg3 h3r hown3 hown2 hat3 hL5 hLc hLcw hrc hown8 hown h8r hL hLs hrS
   go_upto_region 9 with (first
    | (refine hm_wpList_slice0 rfl 25 (.tmp 11) rfl (.pointer (some ⟨g11, 0, none⟩)) rfl (hm_sliceHash _) ?_)
    | (at_builtin; refine wpList_append_bytes rfl (.tmp 34) (.tmp 35) 60 rfl w5.heap.size 5 Tryz.underlying60 byteInfo8 _ [] rfl (own_void w5 _ _ (Nat.le_refl _)) (some ⟨g11, 0, none⟩) 32 32 T rfl HTL.out (hrt.alloc _) (by simp) (by simp only [World.size_alloc]; omega) ?_; intro v6 w6 hown6 hg6 hat6)
    | fail)
   have hL6 : Later w5 w6 := (below_new w5 (.cells #[] 5)).grown hg6 (by simp only [World.size_alloc]; omega) (fun j e => (own_void w5 5 w5.heap.size (Nat.le_refl _)).at_ j e |>.1)
   rw [List.nil_append] at hown6
   obtain ⟨A6, c6, rfl, h61, h62, h6r⟩ := hown6.slice
   rw [HTL.out] at h61 ⊢
   have hj2 := refJoin_any A8 (32 * k) c8 al A6 32 c6 T w6 HAL.out HTL.out (by omega) (by decide) (h8r5.later hL6) h6r
   clear hown6 hg6 hat6 h8r5 hrt
   go_wp2_with (first
    | (go_at_call 92; refine hj2.mono ?_; clear hj2; rintro e w7 ⟨v7, rfl, hown7, hb7⟩)
    | fail)
   have hL7 : Later w6 w7 := hb7
   have hLw7 : Later w w7 := (hLw5.step hL6).step hL7
   have hown7' : Own 5 w7 w.heap.size v7 (al ++ T) := hown7.mono (b' := w.heap.size) (by have := hL6.size; omega)
   have h6r7 := h6r.later hL7
   have hlv : lenV v7 = 32 * k + 32 := by
    obtain ⟨_, _, rfl, _⟩ := hown7.slice
    simp [lenV, HAL.out, HTL.out]
   clear hown7 hb7 hL7 h6r hL6 hLw5
   go_roundw
   case rel => exact ⟨k + 1, by omega, by go_num, by rw [HNX.out]; exact hown7', ⟨A6, c6, by rw [HTE.out, HTL.out], by rw [HTE.out]; exact h6r7⟩, hLw7⟩
   case measure =>
    rw [hlv]
    simp [lenV]
    omega
  ·have hd : decide (32 * k < n) = false := by simpa using hlt
   have hd' : decide (((32 * k : Nat) : Int) < (n : Int)) = false := by simp; omega
   have hex := Hm.expand_of key name n k (by omega)
   have hrE : Rd wr A8 (Hm.expand key name n) := by rw [<- hex]; exact h8r.take n
   have hsl : ∀ w' : World, (Instr.sliceAt 60 (.slice A8 (32 * k) c8) none (some (.int .i64 (n : Int))) none).run Tryz.prog w' = .ok (.slice A8 n c8) w' :=
    run_slice_upto (k := n) Tryz.underlying60 byteInfo8 (by omega)
   have HSL := Lib.hid hsl
   have hfr : ∀ ad, A8 = some ad -> w.heap.size <= ad.block := fun ad e => (hown.at_ ad.block (by rw [e]; rfl)).1
   clear hex hsl hown hal
   go_wp2_with fail
   go_ret2
   exact ⟨_, rfl, ⟨A8, c8, rfl, by omega, by unfold maxLen at h82; omega, hrE, hfr⟩, hL⟩
theorem arr_range (cs : Array Value) (n : Nat) (h : cs.size = n) : cs = ((List.range n).map fun i => cs.getD i undef).toArray := by
 apply Array.ext_getElem?
 intro i
 conv => rhs; rw [List.getElem?_toArray, List.getElem?_map]
 by_cases hi : i < n
 ·rw [List.getElem?_range hi, Array.getElem?_eq_getElem (by omega)]
  simp [Array.getD, h, hi]
 ·rw [Array.getElem?_eq_none (by omega), List.getElem?_eq_none (by simp; omega)]
  rfl
theorem rec_at (z : Nat) : ∀ (ls : List (List Value)), (∀ l ∈ ls, l.length = z) -> ∀ (k : Nat) (h : k < ls.length) (j : Nat), j < z -> ls.flatten[k * z + j]? = ls[k][j]?
 | d :: ds, hz, 0, _, j, hj => by
  rw [List.flatten_cons, Nat.zero_mul, Nat.zero_add, List.getElem?_append_left (by rw [hz d List.mem_cons_self]; exact hj)]
  rfl
 | d :: ds, hz, k + 1, h, j, hj => by
  have ih := rec_at z ds (fun x hx => hz x (List.mem_cons_of_mem _ hx)) k (by simpa using h) j hj
  have h1 := hz d List.mem_cons_self
  have e : (k + 1) * z = k * z + z := by rw [Nat.add_mul, Nat.one_mul]
  rw [List.flatten_cons, List.getElem?_append_right (by omega), show (k + 1) * z + j - d.length = k * z + j by omega]
  simpa using ih
theorem rec_len (z : Nat) : ∀ (ls : List (List Value)), (∀ l ∈ ls, l.length = z) -> ls.flatten.length = ls.length * z
 | [], _ => by simp
 | d :: ds, hz => by
  rw [List.flatten_cons, List.length_append, rec_len z ds (fun x hx => hz x (List.mem_cons_of_mem _ hx)), hz d List.mem_cons_self, List.length_cons, Nat.add_mul, Nat.one_mul, Nat.add_comm]
def Recs (z : Nat) (w : World) (A : Option Addr) (ls : List (List Value)) : Prop := ls ≠ [] -> ∃ b o, A = some ⟨b, o, none⟩ /\ ∀ i (h : i < ls.length), w.rangeAt b (o + i * z) ls[i]
theorem Recs.nil (z : Nat) (w : World) (A : Option Addr) : Recs z w A [] := fun h => absurd rfl h
theorem Recs.later {z : Nat} {w w' : World} {A : Option Addr} {ls : List (List Value)} (h : Recs z w A ls) (hL : Later w w') : Recs z w' A ls := fun hne => by
 obtain ⟨b, o, e, hc⟩ := h hne
 exact ⟨b, o, e, fun i hi j v hj => hL.cell (hc i hi j v hj)⟩
theorem Recs.at_ {z : Nat} {w : World} {A : Option Addr} {ls : List (List Value)} (h : Recs z w A ls) {k : Nat} (hk : k < ls.length) : ∃ b o, A = some ⟨b, o, none⟩ /\ w.rangeAt b (o + k * z) ls[k] := by
 obtain ⟨b, o, e, hc⟩ := h (fun e => by rw [e] at hk; simp at hk)
 exact ⟨b, o, e, hc k hk⟩
theorem Recs.row {z : Nat} {w : World} {g : Nat} {T : TypeId} {ls : List (List Value)} {cs : Array Value} (hr : Row w g T cs) (hz : ∀ l ∈ ls, l.length = z) (hp : ∀ (j : Nat) (v : Value), ls.flatten[j]? = some v -> cs[j]? = some v) : Recs z w (some ⟨g, 0, none⟩) ls := fun _ => by
 refine ⟨g, 0, rfl, fun i hi j v hj => ?_⟩
 have hl := hz _ (List.getElem_mem hi)
 have hjz : j < z := by rw [<- hl]; exact (List.getElem?_eq_some_iff.1 hj).1
 rw [Nat.zero_add]
 exact (hr.cell _).trans (hp _ _ ((rec_at z ls hz i hi j hjz).trans hj))
def OwnG (T : TypeId) (z : Nat) (w : World) (base : Nat) (v : Value) (ls : List (List Value)) : Prop := (∀ l ∈ ls, l.length = z /\ ∀ u ∈ l, u.oneCell' = true) /\ w.ownsRow base T z v ls.length ls.flatten
theorem OwnG.nil (T : TypeId) (z : Nat) (w : World) (base : Nat) : OwnG T z w base (.slice none 0 0) [] := ⟨by simp, by simp, .inl ⟨rfl, rfl⟩⟩
theorem OwnG.at_ {T : TypeId} {z : Nat} {w : World} {base : Nat} {v : Value} {ls : List (List Value)} (h : OwnG T z w base v ls) : ∀ k, v.ownBlock = some k -> base <= k /\ k < w.heap.size := World.ownsRow.lt h.2
theorem OwnG.keep {T : TypeId} {z : Nat} {w w' : World} {base : Nat} {v : Value} {ls : List (List Value)} (h : OwnG T z w base v ls) (hk : ∀ b, b < w.heap.size -> v.ownBlock = some b -> w'.heap[b]? = w.heap[b]?) : OwnG T z w' base v ls := by
 obtain ⟨h0, h1, h2⟩ := h
 refine ⟨h0, h1, ?_⟩
 rcases h2 with h2 | ⟨g, cap, cur, e, hb, hh, hr⟩
 ·exact .inl h2
 ·exact .inr ⟨g, cap, cur, e, hb, (hk g (Array.getElem?_eq_some_iff.1 hh).1 (by rw [e]; rfl)).trans hh, hr⟩
theorem OwnG.later {T : TypeId} {z : Nat} {w w' : World} {base : Nat} {v : Value} {ls : List (List Value)} (h : OwnG T z w base v ls) (hL : Later w w') : OwnG T z w' base v ls := h.keep fun b hb _ => Below.block hL b hb
theorem OwnG.type {T : TypeId} {z : Nat} {w : World} {base : Nat} {v : Value} {ls : List (List Value)} (h : OwnG T z w base v ls) {k : Nat} (hk : v.ownBlock = some k) : ∃ cs, Row w k T cs := by
 rcases h.2.2 with ⟨rfl, hn⟩ | ⟨g, cap, cur, rfl, hb, hh, hr⟩
 ·cases hk
 ·injection hk with hk
  subst hk
  exact ⟨cur, hh⟩
theorem OwnG.slice {T : TypeId} {z : Nat} {w : World} {base : Nat} {v : Value} {ls : List (List Value)} (h : OwnG T z w base v ls) : ∃ A c, v = .slice A ls.length c /\ ls.length <= c /\ c <= maxLen /\ Recs z w A ls := by
 rcases h.2.2 with ⟨rfl, hn⟩ | ⟨g, cap, cur, rfl, hb, hh, hn, hc, hs, ht⟩
 ·have : ls = [] := List.eq_nil_of_length_eq_zero hn
  subst this
  exact ⟨none, 0, rfl, Nat.le_refl _, Nat.zero_le _, Recs.nil _ _ _⟩
 ·refine ⟨_, cap, rfl, hn, hc, Recs.row (cs := cur) hh (fun l hl => (h.1 l hl).1) fun j v hv => ?_⟩
  rw [<- ht] at hv
  have hj : j < ls.length * z := by
   have := (List.getElem?_eq_some_iff.1 hv).1
   rw [List.length_take] at this
   omega
  rw [List.getElem?_take_of_lt hj, Array.getElem?_toList] at hv
  exact hv
theorem OwnG.row {T : TypeId} {z : Nat} {w : World} {g base : Nat} {ls : List (List Value)} {n : Nat} (h : Row w g T ls.flatten.toArray) (hz : ∀ l ∈ ls, l.length = z /\ ∀ u ∈ l, u.oneCell' = true) (hn : ls.length = n) (hb : base <= g) (hm : n <= maxLen) : OwnG T z w base (.slice (some ⟨g, 0, none⟩) n n) ls := by
 have hl := rec_len z ls fun l hl => (hz l hl).1
 refine ⟨hz, hl, .inr ⟨g, n, _, by rw [hn], hb, h, by omega, hm, by rw [List.size_toArray, hl, hn], ?_⟩⟩
 rw [<- hl, List.take_length]
theorem wpList_append_g {T U : TypeId} {z bytes : Nat} {zv : Value} (hU : Tryz.prog.underlying T = some (.slice U)) (hI : (Tryz.prog.info? U).map (fun i => (i.zero, i.size, i.bytes)) = some (some zv, z, bytes)) (hzv : zv.cells.size = z) (hz0 : 0 < z) (hby : bytes <= 100000)
  {w : World} {ops : Array Oper} {rest : List Oper} {o : Oper} {a : Act} {Q : Exit -> Act -> World -> Prop} (hgd : o.guard = none) (s x : Operand)
  (ho : o.op = .call { callee := .builtin .append, args := #[s, x], argTypes := #[T, T] })
  (base : Nat) (v : Value) (ls : List (List Value)) (hs : a.eval s = v) (hown : OwnG U z w base v ls) (A : Option Addr) (m c : Nat) (ks : List (List Value)) (hk : ∀ l ∈ ks, l.length = z /\ ∀ u ∈ l, u.oneCell' = true) (hx : a.eval x = .slice A m c) (hm : ks.length = m) (hr : Recs z w A ks)
  (hne : ks ≠ []) (hl : ls.length + m <= 1000000000) (hbase : base <= w.heap.size)
  (h : ∀ v' w', OwnG U z w' base v' (ls ++ ks) -> w.grownBy w' v.ownBlock -> (v'.ownBlock = v.ownBlock \/ v'.ownBlock = some w.heap.size) -> wpList Tryz.prog ops Q rest (a.put o.dst v') w') : wpList Tryz.prog ops Q (o :: rest) a w := by
 obtain ⟨i, hi, he⟩ := Option.map_eq_some_iff.1 hI
 injection he with hz he
 injection he with hsz hby'
 obtain ⟨b, o0, rfl, hc⟩ := hr hne
 have hkl := rec_len z ks fun l hl => (hk l hl).1
 refine wpList_append_own_at w hgd s x T ho base U i _ z bytes hU hi hz hsz hby' hzv hz0 v ls.length ls.flatten hs hown.2 ⟨b, o0, none⟩ m c ks.flatten hx (by rw [hkl, hm]) (fun j u hj => ?_) (fun u hu => ?_) (by unfold maxLen; omega) ?_ hbase
  fun v' w' h1 h2 _ h4 => h v' w' ⟨fun l hl => by rcases List.mem_append.1 hl with h | h; exact hown.1 l h; exact hk l h, by rw [List.length_append, List.flatten_append, hm]; exact h1⟩ h2 h4
 ·have hjl : j < ks.length * z := by rw [<- hkl]; exact (List.getElem?_eq_some_iff.1 hj).1
  have hq : j / z < ks.length := Nat.div_lt_of_lt_mul (by rw [Nat.mul_comm]; exact hjl)
  have hr : j % z < z := Nat.mod_lt _ hz0
  have e : j / z * z + j % z = j := Nat.div_add_mod' j z
  have h1 := rec_at z ks (fun l hl => (hk l hl).1) (j / z) hq (j % z) hr
  rw [e, hj] at h1
  have h2 := hc (j / z) hq (j % z) u h1.symm
  rw [addr_add]
  rwa [Nat.add_assoc, e] at h2
 ·obtain ⟨l, hl, hu⟩ := List.mem_flatten.1 hu
  exact (hk l hl).2 u hu
 ·exact Nat.le_trans (Nat.mul_le_mul hl hby) (by decide)
theorem store_part {w : World} {g o : Nat} {t T : TypeId} {cs vs : Array Value} (hr : Row w g t cs) (hi : (Tryz.prog.info? T).map (·.size) = some vs.size) (hle : o + vs.size <= cs.size) (h1 : vs.all (·.oneCell') = true) :
  ∃ w', (Instr.storeAt T (.pointer (some ⟨g, o, none⟩)) (.agg vs)).run Tryz.prog w = .ok () w' /\ Row w' g t (setFrom cs o vs.toList) /\ w.grownBy w' (some g) :=
 ⟨_, run_store_row hr vs hi hle h1, row_setCells vs.toList o w _ hr, grown_setCells _ _ _⟩
namespace Rt
structure Hop where
 key : List UInt8
 next : List UInt8
 amt : Int
 exp : Int
structure Edge where
 key : List UInt8
 chan : List UInt8
 base : Int
 rate : Int
 delta : Int
def zh : List UInt8 := Sha.zeros 32
def noHop : Hop := ⟨zh, zh, 0, 0⟩
def Hop.wf (h : Hop) : Prop := h.key.length = 32 /\ h.next.length = 32
def Edge.wf (e : Edge) : Prop := e.key.length = 32 /\ e.chan.length = 32
theorem zh_len : zh.length = 32 := by simp [zh, Sha.zeros]
theorem noHop_wf : noHop.wf := ⟨zh_len, zh_len⟩
def hopC (h : Hop) : Array Value := ((hC h.key).toList ++ (hC h.next).toList ++ [Value.int .i64 h.amt, Value.int .i64 h.exp]).toArray
def edgeC (e : Edge) : Array Value := ((hC e.key).toList ++ (hC e.chan).toList ++ [Value.int .i64 e.base, .int .i64 e.rate, .int .i64 e.delta]).toArray
abbrev hopL (h : Hop) : List Value := (hopC h).toList
abbrev edgeL (e : Edge) : List Value := (edgeC e).toList
theorem hopC_size {h : Hop} (hw : h.wf) : (hopC h).size = 66 := by
 have h1 := hC_size h.key (Nat.le_of_eq hw.1)
 have h2 := hC_size h.next (Nat.le_of_eq hw.2)
 simp [hopC, h1, h2]
theorem edgeC_size {e : Edge} (hw : e.wf) : (edgeC e).size = 67 := by
 have h1 := hC_size e.key (Nat.le_of_eq hw.1)
 have h2 := hC_size e.chan (Nat.le_of_eq hw.2)
 simp [edgeC, h1, h2]
theorem hopL_len {h : Hop} (hw : h.wf) : (hopL h).length = 66 := by rw [Array.length_toList, hopC_size hw]
theorem edgeL_len {e : Edge} (hw : e.wf) : (edgeL e).length = 67 := by rw [Array.length_toList, edgeC_size hw]
theorem hC_mem {b : List UInt8} {u : Value} (hu : u ∈ (hC b).toList) : u.oneCell' = true := Array.all_eq_true_iff_forall_mem.1 (hC_one b) u (Array.mem_toList_iff.1 hu)
theorem hopL_one (h : Hop) : ∀ u ∈ hopL h, u.oneCell' = true := fun u hu => by
 simp only [hopL, hopC, List.mem_append, List.mem_cons, List.not_mem_nil, or_false] at hu
 rcases hu with (hu | hu) | rfl | rfl
 iterate 2 (exact hC_mem hu)
 ·rfl
 ·rfl
theorem edgeL_one (e : Edge) : ∀ u ∈ edgeL e, u.oneCell' = true := fun u hu => by
 simp only [edgeL, edgeC, List.mem_append, List.mem_cons, List.not_mem_nil, or_false] at hu
 rcases hu with (hu | hu) | rfl | rfl | rfl
 iterate 2 (exact hC_mem hu)
 ·rfl
 ·rfl
 ·rfl
theorem hopC_one (h : Hop) : (hopC h).all (·.oneCell') = true := Array.all_eq_true_iff_forall_mem.2 fun u hu => hopL_one h u (Array.mem_toList_iff.2 hu)
theorem edgeC_one (e : Edge) : (edgeC e).all (·.oneCell') = true := Array.all_eq_true_iff_forall_mem.2 fun u hu => edgeL_one e u (Array.mem_toList_iff.2 hu)
theorem hopC_key {h : Hop} (hw : h.wf) (i : Nat) (hi : i < 32) : (hopC h)[i]? = (hC h.key)[i]? := by
 have h1 := hC_size h.key (Nat.le_of_eq hw.1)
 have h2 := hC_size h.next (Nat.le_of_eq hw.2)
 unfold hopC
 rw [List.getElem?_toArray, List.append_assoc, List.getElem?_append_left (by simp [h1]; exact hi), Array.getElem?_toList]
theorem hopC_next {h : Hop} (hw : h.wf) (i : Nat) (hi : i < 32) : (hopC h)[32 + i]? = (hC h.next)[i]? := by
 have h1 := hC_size h.key (Nat.le_of_eq hw.1)
 have h2 := hC_size h.next (Nat.le_of_eq hw.2)
 unfold hopC
 rw [List.getElem?_toArray, List.append_assoc, List.getElem?_append_right (by simp [h1]), Array.length_toList, h1, show 32 + i - 32 = i by omega, List.getElem?_append_left (by simp [h2]; exact hi), Array.getElem?_toList]
theorem hopC_amt {h : Hop} (hw : h.wf) : (hopC h)[64]? = some (.int .i64 h.amt) := by
 have h1 := hC_size h.key (Nat.le_of_eq hw.1)
 have h2 := hC_size h.next (Nat.le_of_eq hw.2)
 unfold hopC
 rw [List.getElem?_toArray, List.getElem?_append_right (by simp [h1, h2])]
 simp [h1, h2]
theorem hopC_exp {h : Hop} (hw : h.wf) : (hopC h)[65]? = some (.int .i64 h.exp) := by
 have h1 := hC_size h.key (Nat.le_of_eq hw.1)
 have h2 := hC_size h.next (Nat.le_of_eq hw.2)
 unfold hopC
 rw [List.getElem?_toArray, List.getElem?_append_right (by simp [h1, h2])]
 simp [h1, h2]
theorem edgeC_key {e : Edge} (hw : e.wf) (i : Nat) (hi : i < 32) : (edgeC e)[i]? = (hC e.key)[i]? := by
 have h1 := hC_size e.key (Nat.le_of_eq hw.1)
 unfold edgeC
 rw [List.getElem?_toArray, List.append_assoc, List.getElem?_append_left (by simp [h1]; exact hi), Array.getElem?_toList]
theorem edgeC_chan {e : Edge} (hw : e.wf) (i : Nat) (hi : i < 32) : (edgeC e)[32 + i]? = (hC e.chan)[i]? := by
 have h1 := hC_size e.key (Nat.le_of_eq hw.1)
 have h2 := hC_size e.chan (Nat.le_of_eq hw.2)
 unfold edgeC
 rw [List.getElem?_toArray, List.append_assoc, List.getElem?_append_right (by simp [h1]), Array.length_toList, h1, show 32 + i - 32 = i by omega, List.getElem?_append_left (by simp [h2]; exact hi), Array.getElem?_toList]
theorem edgeC_num {e : Edge} (hw : e.wf) : (edgeC e)[64]? = some (.int .i64 e.base) /\ (edgeC e)[65]? = some (.int .i64 e.rate) /\ (edgeC e)[66]? = some (.int .i64 e.delta) := by
 have h1 := hC_size e.key (Nat.le_of_eq hw.1)
 have h2 := hC_size e.chan (Nat.le_of_eq hw.2)
 unfold edgeC
 refine ⟨?_, ?_, ?_⟩ <;> rw [List.getElem?_toArray, List.getElem?_append_right (by simp [h1, h2])] <;> simp [h1, h2]
def paid (a x : Int) : Bool := decide (1 <= a) && decide (a <= 1125899906842624) && (decide (1 <= x) && decide (x <= 2147483647))
end Rt
end Go.Proofs.YtloiaaolnfimgaaGreat
namespace Go.Proofs.YtloiaaolnfimgaaGreat
open Go.RowKit Rt
theorem rin_int (n a b : Int) (w : World) : Calls Tryz.prog 24 #[.int .i64 n, .int .i64 a, .int .i64 b] w fun e w' => e = .returned (.bool (decide (a <= n) && decide (n <= b))) /\ w' = w := by
 by_cases h : a <= n
 ·have e1 : decide (a <= n) = true := decide_eq_true h
  rw [e1, Bool.true_and]
  go_enter Tryz.func24, Tryz.ntmps24
  go_wp2
  go_ret
  exact ⟨rfl, rfl⟩
 ·have e1 : decide (a <= n) = false := decide_eq_false h
  rw [e1, Bool.false_and]
  go_enter Tryz.func24, Tryz.ntmps24
  go_wp2
  go_ret
  exact ⟨rfl, rfl⟩
theorem rin_i64 (n a b : Int) (w : World) : Calls Tryz.prog 46 #[.int .i64 n, .int .i64 a, .int .i64 b] w fun e w' => e = .returned (.bool (decide (a <= n) && decide (n <= b))) /\ w' = w := by
 by_cases h : a <= n
 ·have e1 : decide (a <= n) = true := decide_eq_true h
  rw [e1, Bool.true_and]
  go_enter Tryz.func46, Tryz.ntmps46
  go_wp2
  go_ret
  exact ⟨rfl, rfl⟩
 ·have e1 : decide (a <= n) = false := decide_eq_false h
  rw [e1, Bool.false_and]
  go_enter Tryz.func46, Tryz.ntmps46
  go_wp2
  go_ret
  exact ⟨rfl, rfl⟩
theorem rpaid_any (a x : Int) (w : World) : Calls Tryz.prog 22 #[.int .i64 a, .int .i64 x] w fun e w' => e = .returned (.bool (paid a x)) /\ w' = w := by
 have h1 := fun W => rin_i64 a 1 1125899906842624 W
 have h2 := fun W => rin_i64 x 1 2147483647 W
 unfold paid
 generalize (decide (1 <= a) && decide (a <= 1125899906842624)) = b1 at *
 generalize (decide (1 <= x) && decide (x <= 2147483647)) = b2 at *
 cases b1
 ·rw [Bool.false_and]
  go_enter Tryz.func22, Tryz.ntmps22
  go_wp2_with (first
   | (go_at_call 46; refine (h1 _).mono ?_; rintro e w1 ⟨rfl, rfl⟩)
   | fail)
  go_ret
  exact ⟨rfl, rfl⟩
 ·rw [Bool.true_and]
  go_enter Tryz.func22, Tryz.ntmps22
  go_wp2_with (first
   | (go_at_call 46; (first | (refine (h1 _).mono ?_; clear h1; rintro e w1 ⟨rfl, rfl⟩) | (refine (h2 _).mono ?_; rintro e w1 ⟨rfl, rfl⟩)))
   | fail)
  go_ret
  exact ⟨rfl, rfl⟩
theorem rnum_any (n : Int) (w : World) : Calls Tryz.prog 11 #[.int .i64 n] w fun e w' => e = .returned (.int .i64 n) /\ w' = w := by
 go_enter Tryz.func11, Tryz.ntmps11
 go_wp2
 go_ret
 exact ⟨rfl, rfl⟩
theorem rmust_ok (n : Int) (w : World) : Calls Tryz.prog 32 #[.bool true, .int .i64 n] w fun e w' => w' = w /\ e = .returned (.tuple #[]) := by
 go_enter Tryz.func32, Tryz.ntmps32
 go_wp2
 go_end0
 exact ⟨rfl, rfl⟩
def gaveUp (n : Int) : List PanicEntry := [{ v := .iface 28 (.int .i64 n), recovered := false }]
theorem rmust_no (n : Int) (w : World) : Calls Tryz.prog 32 #[.bool false, .int .i64 n] w fun e w' => w' = w /\ e = .panicked (gaveUp n) := by
 go_enter Tryz.func32, Tryz.ntmps32
 go_wp2
 exact ⟨rfl, rfl, rfl⟩
theorem rcaught_idle (e c : Value) (w : World) :
  CallsD Tryz.prog 30 #[e, c] .returning w fun e u' w' => e = .returned (.tuple #[]) /\ u' = .returning /\ w' = w := by
 refine callsD_of_wpS Tryz.func30 rfl fun c₀ cs hu => ?_
 apply wpS_seq
 apply wpS_region
 simp [wpOpsS, go_sem, recoverD, hu, Tryz.ntmps30, Exit.thenS]
 refine wpS_of_wp ?_
 change Code.wp _ _ _ { tmps := #[e, c, undef, undef, .nilIface, .nilIface, undef, undef, undef, undef, undef, undef, undef, undef], defers := [] } w
 go_wp2
 exact ⟨rfl, _, by rw [<- hu], _, results_none rfl _ _ _, rfl, rfl, rfl⟩
theorem rcaught_panicking (q : Nat) (F : FuncId) (caps : Array Value) (n x : Int) (older : List PanicEntry) (w : World) (hq : Row w q 28 #[.int .i64 x]) (R : World -> World -> Prop) (hen : ∀ w, (callFunc F caps).run Tryz.prog w = .ok (.enter F caps) w)
  (hcl : ∀ W, Row W q 28 #[.int .i64 n] -> w.grownBy W (some q) -> Calls Tryz.prog F caps W fun e W' => e = .returned (.tuple #[]) /\ R W W') :
  CallsD Tryz.prog 30 #[.pointer (some ⟨q, 0, none⟩), .func (.func F) #[] caps] (.panicking ({ v := .iface 28 (.int .i64 n), recovered := false } :: older)) w fun e u' w' =>
   e = .returned (.tuple #[]) /\ u' = .panicking ({ v := .iface 28 (.int .i64 n), recovered := true } :: older) /\ ∃ W, Row W q 28 #[.int .i64 n] /\ w.grownBy W (some q) /\ R W w' := by
 refine callsD_of_wpS Tryz.func30 rfl fun c₀ cs hu => ?_
 have hset := hq.set 0 (.int .i64 n)
 have hgr := grown_set w q 0 (.int .i64 n)
 have hcq := hcl _ hset hgr
 have hc : w.cell? ⟨q, 0, none⟩ = some (.int .i64 x) := (hq.cell 0).trans rfl
 have hf : w.frozen? ⟨q, 0, none⟩ = false := hq.frozen 0
 have HS := Lib.hid hset
 have HG := Lib.hid hgr
 have HC := Lib.hid hcq
 clear hcl hset hgr hcq hq
 have HE := Lib.hid hc
 have HF := Lib.hid hf
 clear hc hf
 apply wpS_seq
 apply wpS_region
 simp [wpOpsS, go_sem, recoverD, hu, Tryz.ntmps30, Exit.thenS]
 refine wpS_of_wp ?_
 change Code.wp _ _ _ { tmps := #[.pointer (some ⟨q, 0, none⟩), .func (.func F) #[] caps, undef, undef, .iface 28 (.int .i64 n), .iface 28 (.int .i64 n), undef, undef, undef, undef, undef, undef, undef, undef], defers := [] } w
 have hc := HE.out
 have hf := HF.out
 have hta : ∀ w : World, (Instr.typeAssert (.iface 28 (.int .i64 n)) 20 28 false).run Tryz.prog w = .ok (.int .i64 n) w := fun w => by kernel_rfl
 go_upto_region 3 with fail
 go_wp2_with fail
 refine HC.out.mono ?_
 rintro e w2 ⟨rfl, hR⟩
 go_wp2_with fail
 exact ⟨rfl, _, rfl, _, results_none rfl _ _ _, rfl, rfl, _, HS.out, HG.out, hR⟩
section
variable {P : Program} {ops : Array Oper} {rest : List Oper} {o : Oper} {a : Act} {w : World} {Q : Exit -> Act -> World -> Prop}
theorem wpList_idx (hgd : o.guard = none) (T : TypeId) (x y : Operand) (ho : o.op = .indexAddr T x y) (vx vy : Value) (hx : a.eval x = vx) (hy : a.eval y = vy) {v : Value} {w' : World} (hr : (Instr.indexAt T vx vy).run P w = .ok v w')
  (h : wpList P ops Q rest (a.put o.dst v) w') : wpList P ops Q (o :: rest) a w :=
 wpList_plain hgd fun _ hK => by
  unfold Oper.wp execOp
  simp only [ho, Sem.run_bind, Sem.run_pure, Result.andThen_ok, hx, hy, hr]
  exact hK _ _ h
theorem wpList_conv (hgd : o.guard = none) (S T : TypeId) (x : Operand) (ho : o.op = .convert S T x) (vx : Value) (hx : a.eval x = vx) {v : Value} {w' : World} (hr : (convert S T vx).run P w = .ok v w')
  (h : wpList P ops Q rest (a.put o.dst v) w') : wpList P ops Q (o :: rest) a w :=
 wpList_plain hgd fun _ hK => by
  unfold Oper.wp execOp
  simp only [ho, Sem.run_bind, Sem.run_pure, Result.andThen_ok, hx, hr]
  exact hK _ _ h
theorem wpList_field (hgd : o.guard = none) (T : TypeId) (x : Operand) (i : Nat) (ho : o.op = .fieldAddr T x i) (vx : Value) (hx : a.eval x = vx) {v : Value} {w' : World} (hr : (Instr.fieldAt T vx i).run P w = .ok v w')
  (h : wpList P ops Q rest (a.put o.dst v) w') : wpList P ops Q (o :: rest) a w :=
 wpList_plain hgd fun _ hK => by
  unfold Oper.wp execOp
  simp only [ho, Sem.run_bind, Sem.run_pure, Result.andThen_ok, hx, hr]
  exact hK _ _ h
end
theorem infoHop : (Tryz.prog.info? 27).map (·.size) = some 66 := by kernel_rfl
theorem infoHopR : (Tryz.prog.info? 68).map (·.size) = some 66 := by kernel_rfl
theorem infoEdge : (Tryz.prog.info? 44).map (·.size) = some 67 := by kernel_rfl
theorem allocHop (w : World) : (Instr.alloc 27 true (.tuple #[])).run Tryz.prog w = .ok (.pointer (some ⟨w.heap.size, 0, none⟩)) (w.alloc (.cells (hopC noHop) 27)) := by kernel_rfl
theorem buildHop0 (w : World) : (Instr.build 27 #[]).run Tryz.prog w = .ok (.agg (hopC noHop)) w := by kernel_rfl
theorem buildH0r (w : World) : (Instr.build 25 #[]).run Tryz.prog w = .ok (.agg (hC zh)) w := by kernel_rfl
theorem boxHopR {h : Hop} (hw : h.wf) (w : World) : (Instr.box 68 (.agg (hopC h))).run Tryz.prog w = .ok (.pointer (some ⟨w.heap.size, 0, none⟩)) (w.alloc (.cells (hopC h) 68)) :=
 run_box_row w _ _ (by rw [hopC_size hw]; exact infoHopR)
theorem loadNextR {w : World} {g : Nat} {t : TypeId} {h : Hop} (hw : h.wf) (hr : Row w g t (hopC h)) : (Instr.loadAt 25 (.pointer (some ⟨g, 32, none⟩))).run Tryz.prog w = .ok (.agg (hC h.next)) w := by
 have hz := hC_size h.next (Nat.le_of_eq hw.2)
 exact run_load_part hr (fun j hj => hopC_next hw j (by omega)) Tryz.underlying25 rfl (by rw [hz]; exact infoH)
theorem rends_any (h : Hop) (hw : h.wf) (w : World) : Calls Tryz.prog 23 #[.agg (hopC h)] w fun e w' => e = .returned (.bool (h.next == zh)) /\ Later w w' := by
 have hbx := boxHopR hw w
 have hr := Row.new w 68 (hopC h)
 have hld := loadNextR hw hr
 have hL : Later w (w.alloc (.cells (hopC h) 68)) := below_new w _
 have heq := fun W => eqlHash h.next zh hw.2 zh_len W
 have HL := Lib.hid hL
 clear hr hL
 go_enter Tryz.func23, Tryz.ntmps23
 go_wp2_with (first
  | (guard_target =~ wpList _ _ _ (_ :: _) _ _; refine wpList_build rfl 25 _ rfl #[] rfl (buildH0r _) ?_)
  | (guard_target =~ wpList _ _ _ (_ :: _) _ _; refine wpList_load rfl 25 (.tmp 4) rfl (.pointer (some ⟨w.heap.size, 32, none⟩)) rfl hld ?_)
  | (guard_target =~ wpList _ _ _ (_ :: _) _ _; refine wpList_binop rfl .eql 25 25 (.tmp 5) (.tmp 6) rfl (.agg (hC h.next)) (.agg (hC zh)) rfl rfl (by kernel_rfl) (heq _) ?_)
  | fail)
 go_ret
 exact ⟨rfl, HL.out⟩
theorem storeHop {w : World} {g : Nat} {t : TypeId} {h h' : Hop} (hw : h.wf) (hw' : h'.wf) (hr : Row w g t (hopC h)) : ∃ w', (Instr.storeAt 27 (.pointer (some ⟨g, 0, none⟩)) (.agg (hopC h'))).run Tryz.prog w = .ok () w' /\ Row w' g t (hopC h') /\ w.grownBy w' (some g) :=
 run_put_row hr (by rw [hopC_size hw, hopC_size hw']) (by rw [hopC_size hw']; exact infoHop) (hopC_one h')
theorem loadHopR {w : World} {g : Nat} {t : TypeId} {h : Hop} (hw : h.wf) (hr : Row w g t (hopC h)) : (Instr.loadAt 27 (.pointer (some ⟨g, 0, none⟩))).run Tryz.prog w = .ok (.agg (hopC h)) w :=
 run_load_row hr Tryz.underlying27 rfl (by rw [hopC_size hw]; exact infoHop)
theorem results_ccc {P : Program} {fn : Func} {p q r : Tmp} {ty t2 t3 : TypeId} (h : fn.results = #[.cell p ty, .cell q t2, .cell r t3]) (tmps : Array Value) (w : World) (g g2 g3 : Nat) (t : TypeId) (cs : Array Value) (d : TypeDesc) (v x : Value)
  (hp : tmps.getD p undef = .pointer (some ⟨g, 0, none⟩)) (hq : tmps.getD q undef = .pointer (some ⟨g2, 0, none⟩)) (hr : tmps.getD r undef = .pointer (some ⟨g3, 0, none⟩)) (hg : Row w g t cs)
  (hu : P.underlying ty = some d) (hd : (match d with | .struct _ | .array _ _ => true | _ => false) = true) (hi : (P.info? ty).map (·.size) = some cs.size) (h2 : (loadVar t2 ⟨g2, 0, none⟩).run P w = .ok v w) (h3 : (loadVar t3 ⟨g3, 0, none⟩).run P w = .ok x w) :
  (results fn tmps).run P w = .ok (.tuple #[.agg cs, v, x]) w := by
 have hp' : tmps[p]?.getD undef = .pointer (some ⟨g, 0, none⟩) := by simpa using hp
 have hq' : tmps[q]?.getD undef = .pointer (some ⟨g2, 0, none⟩) := by simpa using hq
 have hr' : tmps[r]?.getD undef = .pointer (some ⟨g3, 0, none⟩) := by simpa using hr
 simp [results, h, hp', hq', hr', asAddr, run_loadVar_row w g t ty cs (0, 0) d hg hu hd hi, h2, h3]
theorem results_cc {P : Program} {fn : Func} {p q : Tmp} {ty t2 : TypeId} (h : fn.results = #[.cell p ty, .cell q t2]) (tmps : Array Value) (w : World) (g g2 : Nat) (t : TypeId) (cs : Array Value) (d : TypeDesc) (v : Value)
  (hp : tmps.getD p undef = .pointer (some ⟨g, 0, none⟩)) (hq : tmps.getD q undef = .pointer (some ⟨g2, 0, none⟩)) (hg : Row w g t cs)
  (hu : P.underlying ty = some d) (hd : (match d with | .struct _ | .array _ _ => true | _ => false) = true) (hi : (P.info? ty).map (·.size) = some cs.size) (h2 : (loadVar t2 ⟨g2, 0, none⟩).run P w = .ok v w) :
  (results fn tmps).run P w = .ok (.tuple #[.agg cs, v]) w := by
 have hp' : tmps[p]?.getD undef = .pointer (some ⟨g, 0, none⟩) := by simpa using hp
 have hq' : tmps[q]?.getD undef = .pointer (some ⟨g2, 0, none⟩) := by simpa using hq
 simp [results, h, hp', hq', asAddr, run_loadVar_row w g t ty cs (0, 0) d hg hu hd hi, h2]
theorem loadErr {w : World} {g : Nat} {n : Int} (h : w.cell? ⟨g, 0, none⟩ = some (.int .i64 n)) : (loadVar 28 ⟨g, 0, none⟩).run Tryz.prog w = .ok (.int .i64 n) w := by
 go_simp
theorem loadStrVar {w : World} {g : Nat} {s : ByteArray} (h : w.cell? ⟨g, 0, none⟩ = some (.string s)) : (loadVar 9 ⟨g, 0, none⟩).run Tryz.prog w = .ok (.string s) w := by
 go_simp
theorem Row.type {w : World} {g : Nat} {t u : TypeId} {cs ds : Array Value} (h : Row w g t cs) (k : Row w g u ds) : t = u := by
 have e := (show w.heap[g]? = _ from h).symm.trans (show w.heap[g]? = _ from k)
 simp only [Option.some.injEq, Obj.cells.injEq] at e
 exact e.2.1
theorem ne_rows {w : World} {k q : Nat} {T U : TypeId} {cs cs' : Array Value} (h1 : Row w k T cs) (h2 : Row w q U cs') (hT : T ≠ U) : k ≠ q := fun e => by
 subst e
 exact hT (Row.type h1 h2)
theorem peelFn_any (q q5 : Nat) (h : Hop) (hw : h.wf) (s : ByteArray) (w : World) (hr : Row w q 27 (hopC h)) (h5 : Row w q5 9 #[.string s]) :
  Calls Tryz.prog 31 #[.pointer (some ⟨q, 0, none⟩), .pointer (some ⟨q5, 0, none⟩)] w fun e w' => e = .returned (.tuple #[]) /\ Row w' q 27 (hopC noHop) /\ Row w' q5 9 #[.string ⟨#[]⟩] /\ Same (fun k => k < w.heap.size /\ k ≠ q /\ k ≠ q5) w w' := by
 have hne := ne_rows hr h5 (by decide)
 obtain ⟨w1, hst, h1, h2⟩ := storeHop hw noHop_wf hr
 have h51 := h5.grown h2 (fun e => hne (Option.some.inj e).symm)
 have h52 := h51.set 0 (.string ⟨#[]⟩)
 have h12 := h1.far (p := ⟨q5, 0, none⟩) hne (.string ⟨#[]⟩)
 have hS : Same (fun k => k < w.heap.size /\ k ≠ q /\ k ≠ q5) w (w1.setCell ⟨q5, 0, none⟩ (.string ⟨#[]⟩)) :=
  ((Same.of_grown h2).mono fun k hk => ⟨hk.1, fun e => hk.2.1 (Option.some.inj e)⟩).trans ((Same.set w1 ⟨q5, 0, none⟩ _).mono fun k hk => hk.2.2)
 have c5 : w1.cell? ⟨q5, 0, none⟩ = some (.string s) := (h51.cell 0).trans rfl
 have f5 : w1.frozen? ⟨q5, 0, none⟩ = false := h51.frozen 0
 have H1 := Lib.hid h12
 have H2 := Lib.hid h52
 have H3 := Lib.hid hS
 clear h1 h2 hr h5 h51 h52 h12 hS
 go_enter Tryz.func31, Tryz.ntmps31
 go_wp2_with (first
  | (guard_target =~ wpList _ _ _ (_ :: _) _ _; refine wpList_build rfl 27 _ rfl #[] rfl (buildHop0 _) ?_)
  | (guard_target =~ wpList _ _ _ (_ :: _) _ _; refine wpList_store rfl 27 (.tmp 0) (.tmp 2) rfl (.pointer (some ⟨q, 0, none⟩)) (.agg (hopC noHop)) rfl rfl hst ?_)
  | fail)
 go_end0
 exact ⟨rfl, H1.out, H2.out, H3.out⟩
theorem Same.below_of {B : Nat} {p : Nat -> Prop} {a b : World} (h : Same p a b) (hp : ∀ k, k < B -> p k) : Below B a b := Same.below (h.mono hp)
theorem peel_caught (q q5 q6 : Nat) (h : Hop) (hw : h.wf) (s : ByteArray) (x n : Int) (w W : World) (k4 : Row W q 27 (hopC h)) (k5 : Row W q5 9 #[.string s]) (k6 : Row W q6 28 #[.int .i64 x]) (hbW : Below w.heap.size w W) (hq : w.heap.size <= q) (hq5 : w.heap.size <= q5) (hq6 : w.heap.size <= q6) :
  CallsD Tryz.prog 30 #[.pointer (some ⟨q6, 0, none⟩), .func (.func 31) #[] #[.pointer (some ⟨q, 0, none⟩), .pointer (some ⟨q5, 0, none⟩)]] (.panicking (gaveUp n)) W fun e u' w' =>
   e = .returned (.tuple #[]) /\ u' = .panicking ({ v := .iface 28 (.int .i64 n), recovered := true } :: []) /\ Row w' q 27 (hopC noHop) /\ w'.cell? ⟨q5, 0, none⟩ = some (.string ⟨#[]⟩) /\ w'.cell? ⟨q6, 0, none⟩ = some (.int .i64 n) /\ Below w.heap.size w w' := by
 have hne := ne_rows k4 k6 (by decide)
 have hne5 := ne_rows k5 k6 (by decide)
 refine (rcaught_panicking q6 31 #[.pointer (some ⟨q, 0, none⟩), .pointer (some ⟨q5, 0, none⟩)] n x [] W k6 (fun X X' => Row X' q 27 (hopC noHop) /\ Row X' q5 9 #[.string ⟨#[]⟩] /\ Same (fun k => k < X.heap.size /\ k ≠ q /\ k ≠ q5) X X') (enters_of Tryz.func31 (by kernel_rfl) rfl _) (fun X hX hg => (peelFn_any q q5 h hw s X (k4.grown hg (fun e => hne (Option.some.inj e))) (k5.grown hg (fun e => hne5 (Option.some.inj e)))))).mono ?_
 rintro e u' w' ⟨rfl, rfl, X, hk, hg, hp, hp5, hs2⟩
 have hb1 : Below w.heap.size w X := hbW.grown hg hbW.size (fun j e => by cases e; exact hq6)
 exact ⟨rfl, rfl, hp, (hp5.cell 0).trans rfl, ((hk.same hs2 ⟨hk.lt, fun e => hne e.symm, fun e => hne5 e.symm⟩).cell 0).trans rfl, hb1.trans (hs2.below_of fun k h => ⟨Nat.lt_of_lt_of_le h hb1.size, by omega, by omega⟩)⟩
theorem peel_short (key : List UInt8) (hk : key.length = 32) (s : ByteArray) (hs : s.size < 32 \/ 512 < s.size) (w : World) : Calls Tryz.prog 12 #[.agg (hC key), .string s] w fun e w' => e = .returned (.tuple #[.agg (hopC noHop), .string ⟨#[]⟩, .int .i64 350]) /\ Below w.heap.size w w' := by
 refine Calls.post fun Φ HΦ => ?_
 have hin := fun W => rin_int (s.size : Int) 32 512 W
 rw [show (decide ((32 : Int) <= (s.size : Int)) && decide ((s.size : Int) <= 512)) = false by
  rcases hs with h | h
  ·rw [decide_eq_false (by omega), Bool.false_and]
  ·rw [decide_eq_false (p := (s.size : Int) <= 512) (by omega), Bool.and_false]] at hin
 have hmf : ∀ (fn : Fn) (first cap : Array Value) (w : World), (Instr.makeFunc fn first cap).run Tryz.prog w = .ok (.func fn first cap) w := fun _ _ _ _ => rfl
 have k4 := ((Row.new (w.alloc (.cells (hC key) 25)) 27 (hopC noHop)).alloc (.cells #[.string ⟨#[]⟩] 9)).alloc (.cells #[.int .i64 0] 28)
 have k5 := (Row.new ((w.alloc (.cells (hC key) 25)).alloc (.cells (hopC noHop) 27)) 9 #[.string ⟨#[]⟩]).alloc (.cells #[.int .i64 0] 28)
 have k6 := Row.new (((w.alloc (.cells (hC key) 25)).alloc (.cells (hopC noHop) 27)).alloc (.cells #[.string ⟨#[]⟩] 9)) 28 #[.int .i64 0]
 have hb : Below w.heap.size w ((((w.alloc (.cells (hC key) 25)).alloc (.cells (hopC noHop) 27)).alloc (.cells #[.string ⟨#[]⟩] 9)).alloc (.cells #[.int .i64 0] 28)) :=
  ((((Below.refl w.heap.size w).alloc (Nat.le_refl _) _).alloc (by simp) _).alloc (by simp; omega) _).alloc (by simp; omega) _
 have hbx := boxH key hk w
 simp only [World.size_alloc] at k4 k5 k6
 clear hs hk
 go_enter_defers Tryz.func12, Tryz.ntmps12
 go_upto_region 1 with (first
  | (guard_target =~ wpList _ _ _ (_ :: _) _ _; refine wpList_box rfl 25 (.tmp 0) rfl (.agg (hC key)) rfl hbx ?_)
  | (with_reducible refine wpList_alloc rfl 27 rfl (allocHop _) ?_)
  | fail)
 try simp only [World.size_alloc]
 generalize (((w.alloc (.cells (hC key) 25)).alloc (.cells (hopC noHop) 27)).alloc (.cells #[.string ⟨#[]⟩] 9)).alloc (.cells #[.int .i64 0] 28) = w1 at *
 clear hbx
 go_wp2_with (first
  | (go_at_call 24; refine (hin _).mono ?_; rintro e w5 ⟨rfl, rfl⟩)
  | (go_at_call 32; refine (rmust_no _ _).mono ?_; rintro e w5 ⟨rfl, rfl⟩)
  | fail)
 refine leaves_cons (f := 30) (args := #[.pointer (some ⟨w.heap.size + 1 + 1 + 1, 0, none⟩), .func (.func 31) #[] #[.pointer (some ⟨w.heap.size + 1, 0, none⟩), .pointer (some ⟨w.heap.size + 1 + 1, 0, none⟩)]]) (by simp) (by simp [go_sem]) ?_
 refine (peel_caught _ _ _ _ noHop_wf _ _ _ w _ k4 k5 k6 hb (by omega) (by omega) (by omega)).mono ?_
 rintro e u' w'' ⟨rfl, rfl, kQ, c5, c6, hbG⟩
 show ∃ v, _ /\ _
 exact ⟨_, results_ccc rfl _ _ _ _ _ 27 (hopC noHop) _ _ _ rfl rfl rfl kQ Tryz.underlying27 rfl (by rw [hopC_size noHop_wf]; exact infoHop) (loadStrVar c5) (loadErr c6), HΦ.out _ _ ⟨rfl, hbG⟩⟩
theorem wrap_nil (A : Option Addr) (c : Nat) (w : World) : Calls Tryz.prog 9 #[.slice A 0 c] w fun e w' => e = .returned (.tuple #[.string ⟨#[]⟩, .int .i64 2]) /\ w' = w := by
 refine Calls.post fun Φ HΦ => ?_
 have hin := fun W => rin_int 0 1 6 W
 go_enter Tryz.func9, Tryz.ntmps9
 go_wp2_with fail
 go_loopw [12] (fun t wr => t = .int .i64 0 /\ wr = w) (fun t _ => 0)
 case atStart => exact ⟨rfl, rfl⟩
 case round =>
  obtain ⟨rfl, rfl⟩ := hrel
  go_wp2_with (first
   | (go_at_call 24; refine (hin _).mono ?_; rintro e w5 ⟨rfl, rfl⟩)
   | fail)
  exact HΦ.out _ _ ⟨rfl, rfl⟩
end Go.Proofs.YtloiaaolnfimgaaGreat
namespace Go.Proofs.YtloiaaolnfimgaaGreat
open Go.RowKit
section
variable {P : Program} {Q : Exit -> Act -> World -> Prop}
def upTo (n k : Nat) : Array Bool := ((List.range n).map fun j => decide (j < k)).toArray
theorem upTo_get (n k j : Nat) (h : j < n) : (upTo n k).getD j false = decide (j < k) := by simp [upTo, Array.getD, h]
theorem upTo_size (n k : Nat) : (upTo n k).size = n := by simp [upTo]
theorem upTo_set (n k : Nat) (h : k < n) : (upTo n k).setIfInBounds k true = upTo n (k + 1) := by
 apply Array.ext
 ·simp [upTo]
 ·intro i h1 h2
  simp only [upTo, List.setIfInBounds_toArray, List.getElem_toArray, List.getElem_set, List.getElem_map, List.getElem_range]
  by_cases e : k = i
  ·subst e; simp
  ·rw [if_neg e]
   simp only [decide_eq_decide]
   omega
theorem wpL_values {ops : Array Oper} (hd : dstsB ops = true) (hb : backB ops = true) {a0 : Act} (hin : dstIn ops a0.tmps.size = true) {w : World} (V : Nat -> Value -> World -> Prop) (hV : ∀ j v W W', V j v W -> Later W W' -> V j v W')
  (step : ∀ i o a W, ops[i]? = some o -> Later w W -> Env ops a0 V i a W -> StepOk P ops Q o a W (V i))
  (done : ∀ xs W, Later w W -> (∀ j, j < ops.size -> V j (xs j) W) -> Q .normal (putL ops.toList 0 xs a0) W) :
  ∀ (os : List Oper) (k : Nat) (xs : Nat -> Value) (W : World), k + os.length = ops.size -> (∀ j, os[j]? = ops[k + j]?) -> Later w W -> (∀ j, j < k -> V j (xs j) W) -> wpList P ops Q os (laid ops a0 (upTo ops.size k) xs ops.size) W
 | [], k, xs, W, hk, hos, hL, hx => by
  have hk' : k = ops.size := by simpa using hk
  refine wpList_nil ?_
  rw [laid_all (fun i hi => by rw [upTo_get _ _ _ hi]; simp; omega)]
  exact done xs W hL (fun j hj => hx j (by omega))
 | o :: os, k, xs, W, hk, hos, hL, hx => by
  have hlen : os.length + 1 = (o :: os).length := rfl
  have ho : ops[k]? = some o := by have := hos 0; simpa using this.symm
  have hlt : k < ops.size := (Array.getElem?_eq_some_iff.1 ho).1
  have hdst : dstOf ops k = o.dst := by unfold dstOf; rw [ho]
  have hjlt : ∀ j t, dstOf ops j = some t -> j < ops.size := fun j t h => by
   unfold dstOf at h
   cases hj : ops[j]? with
   | none => rw [hj] at h; cases h
   | some o' => exact (Array.getElem?_eq_some_iff.1 hj).1
  have hts : ∀ j t, dstOf ops j = some t -> t < a0.tmps.size := fun j t h => by
   unfold dstIn at hin
   rw [List.all_eq_true] at hin
   have := hin j (List.mem_range.2 (hjlt j t h))
   rw [h] at this
   simpa using this
  have hwb : ∀ i j, i < ops.size -> waits ops i j = true -> j < i := fun i j hi hw => by
   unfold waits at hw
   unfold backB at hb
   rw [List.all_eq_true] at hb
   have h1 := hb i (List.mem_range.2 hi)
   rw [Array.getElem?_eq_getElem hi] at hw h1
   simp only at hw h1
   obtain ⟨q, hq, h2⟩ := Array.any_eq_true.1 hw
   simp at h2
   rw [Array.all_eq_true_iff_forall_mem] at h1
   have h3 := h1 _ (Array.getElem_mem hq)
   rw [h2.1] at h3
   simp at h3
   omega
  have henv : Env ops a0 V k (laid ops a0 (upTo ops.size k) xs ops.size) W := by
   refine ⟨fun x hkx => laid_keep x _ (fun j d hj hjd hl hx' => ?_), fun j t hw ht => ?_⟩
   ·subst hx'
    unfold keepsB at hkx
    rw [List.all_eq_true] at hkx
    have h3 := hkx j (List.mem_range.2 hj)
    rw [hjd] at h3
    simp at h3
    rw [upTo_get _ _ _ hj] at hl
    have hl' : j < k := by simpa using hl
    rcases h3 with h3 | h3
    ·omega
    ·have := hwb j k hj h3
     omega
   ·have hjk := hwb k j hlt hw
    rw [laid_get hd ht (by rw [upTo_get _ _ _ (hjlt j t ht)]; simpa using hjk) (hts j t ht) _ (Nat.le_refl _) (hjlt j t ht)]
    exact hx j hjk
  have hs := step k o _ W ho hL henv
  have next : ∀ v W', Later W W' -> V k v W' -> wpList P ops Q os ((laid ops a0 (upTo ops.size k) xs ops.size).put o.dst v) W' := fun v W' hL' hv => by
   have e := laid_put hd (a0 := a0) (l := upTo ops.size k) (xs := xs) v (i := k) (by rw [upTo_size]; exact hlt) (by rw [upTo_get _ _ _ hlt]; simp) ops.size (Nat.le_refl _) hlt
   rw [hdst, upTo_set _ _ hlt] at e
   rw [e]
   refine wpL_values hd hb hin V hV step done os (k + 1) _ W' (by simp at hk; omega) (fun j => ?_) (hL.step hL') (fun j hj => ?_)
   ·have := hos (j + 1)
    rw [List.getElem?_cons_succ] at this
    rw [this]
    congr 1
    omega
   ·show V j (if j = k then v else xs j) W'
    by_cases e : j = k
    ·subst e; rw [if_pos rfl]; exact hv
    ·rw [if_neg e]; exact hV j _ W W' (hx j (by omega)) hL'
  refine wpList_step fun K hK => ?_
  unfold StepOk at hs
  split
  ·rename_i hw
   rw [if_pos hw] at hs
   exact Oper.wp_mono (fun a' W' ⟨v, e, hL', hv⟩ => by rw [e]; exact hK _ _ (next v W' hL' hv)) hs
  ·rename_i hw
   rw [if_neg hw] at hs
   exact hK _ _ (next undef W (Later.refl _) hs)
theorem wp_region_seqL {id : Nat} {l : List Oper} {a0 : Act} {w : World} (Vs : List Pr) (hd : dstsB l.toArray = true) (hb : backB l.toArray = true) (hin : dstIn l.toArray a0.tmps.size = true)
  (step : AllFrom (fun i o => ∀ a W, Later w W -> Env l.toArray a0 (Vof Vs) i a W -> StepOk P l.toArray Q o a W (Vof Vs i)) 0 l)
  (done : ∀ xs W, Later w W -> (∀ j, j < l.length -> Vof Vs j (xs j) W) -> Q .normal (putL l 0 xs a0) W) : (Code.region id l.toArray false).wp P Q a0 w := by
 refine wp_region_lit ?_
 have h0 : laid l.toArray a0 (upTo l.toArray.size 0) (fun _ => undef) l.toArray.size = a0 := by
  have : ∀ k, k <= l.toArray.size -> laid l.toArray a0 (upTo l.toArray.size 0) (fun _ => undef) k = a0 := by
   intro k
   induction k with
   | zero => intro _; rfl
   | succ k ih => intro hk; rw [laid, upTo_get _ _ _ (by omega)]; simpa using ih (by omega)
  exact this _ (Nat.le_refl _)
 have h := wpL_values hd hb hin (Vof Vs) (Vof.st Vs) (Q := Q) (P := P) (w := w) (fun i o a W ho hL he => by
  have h := allFrom_get l 0 step i o (by simpa using ho)
  rw [Nat.zero_add] at h
  exact h a W hL he) (fun xs W hL hx => done xs W hL (fun j hj => hx j (by simpa using hj))) l 0 (fun _ => undef) w (by simp) (fun j => by simp) (Later.refl _) (fun j hj => by omega)
 rwa [h0] at h
end
end Go.Proofs.YtloiaaolnfimgaaGreat
namespace Go.Proofs.YtloiaaolnfimgaaGreat
open Go.RowKit Rt
section
variable {P : Program} {Q : Exit -> Act -> World -> Prop} {o : Oper} {a : Act} {W : World} {R : Value -> World -> Prop}
theorem op_not {T : TypeId} {x : Operand} {b : Bool} (ho : o.op = .unOp .not T x) (hx : a.eval x = .bool b) (h : R (.bool (!b)) W) : o.wp P a W (fun a' W' => ∃ v, a' = a.put o.dst v /\ Later W W' /\ R v W') Q := by
 refine op_value (v := .bool (!b)) (W' := W) ?_ (Later.refl _) h
 unfold execOp
 simp only [ho, hx, Sem.run_bind, Sem.run_pure, Result.andThen_ok]
 cases b <;> go_simp
theorem op_build {t : TypeId} {parts : Array (Nat × Operand)} {vs : Array (Nat × Value)} {v : Value} (ho : o.op = .build t parts) (hp : (parts.map fun (i, x) => (i, a.eval x)) = vs) (hr : (Instr.build t vs).run P W = .ok v W) (h : R v W) : o.wp P a W (fun a' W' => ∃ v, a' = a.put o.dst v /\ Later W W' /\ R v W') Q := by
 refine op_value (v := v) (W' := W) ?_ (Later.refl _) h
 unfold execOp
 simp only [ho, hp, hr, Sem.run_bind, Sem.run_pure, Result.andThen_ok]
end
section
variable {g o : Nat} {W : World}
theorem fHop0 : (Instr.fieldAt 27 (.pointer (some ⟨g, o, none⟩)) 0).run Tryz.prog W = .ok (.pointer (some ⟨g, o, none⟩)) W := by go_simp
theorem fHop1 : (Instr.fieldAt 27 (.pointer (some ⟨g, o, none⟩)) 1).run Tryz.prog W = .ok (.pointer (some ⟨g, o + 32, none⟩)) W := by go_simp
theorem fHop2 : (Instr.fieldAt 27 (.pointer (some ⟨g, o, none⟩)) 2).run Tryz.prog W = .ok (.pointer (some ⟨g, o + 64, none⟩)) W := by go_simp
theorem fHop3 : (Instr.fieldAt 27 (.pointer (some ⟨g, o, none⟩)) 3).run Tryz.prog W = .ok (.pointer (some ⟨g, o + 65, none⟩)) W := by go_simp
theorem fEdge0 : (Instr.fieldAt 44 (.pointer (some ⟨g, o, none⟩)) 0).run Tryz.prog W = .ok (.pointer (some ⟨g, o, none⟩)) W := by go_simp
theorem fEdge1 : (Instr.fieldAt 44 (.pointer (some ⟨g, o, none⟩)) 1).run Tryz.prog W = .ok (.pointer (some ⟨g, o + 32, none⟩)) W := by go_simp
theorem fEdge3 : (Instr.fieldAt 44 (.pointer (some ⟨g, o, none⟩)) 3).run Tryz.prog W = .ok (.pointer (some ⟨g, o + 66, none⟩)) W := by go_simp
theorem ldI64 {v : Int} (hc : W.cell? ⟨g, o, none⟩ = some (.int .i64 v)) : (Instr.loadAt 2 (.pointer (some ⟨g, o, none⟩))).run Tryz.prog W = .ok (.int .i64 v) W := by go_simp
end
theorem eqg_any {b : BinOp} (hb : (b != .eql && b != .neq) = true) {T : TypeId} {x y : Operand} {vx vy : Value} {P : Program} {W : World} : (eqGuard b T x y vx vy).run P W = .ok () W := by
 cases b <;> first | rfl | cases hb
theorem buildHopR0 (f : Nat -> Value) (w : World) : (Instr.build 68 #[(0, .agg ((List.range 66).map f).toArray)]).run Tryz.prog w = .ok (.agg ((List.range 66).map f).toArray) w := by kernel_rfl
theorem buildHopR {h : Hop} (hw : h.wf) (w : World) : (Instr.build 68 #[(0, .agg (hopC h))]).run Tryz.prog w = .ok (.agg (hopC h)) w := by
 rw [arr_range (hopC h) 66 (hopC_size hw)]
 exact buildHopR0 _ w
theorem cHop2 {w : World} {g : Nat} {t : TypeId} {h : Hop} (hw : h.wf) (hr : Row w g t (hopC h)) : w.cell? ⟨g, 64, none⟩ = some (.int .i64 h.amt) := (hr.cell 64).trans (hopC_amt hw)
theorem cHop3 {w : World} {g : Nat} {t : TypeId} {h : Hop} (hw : h.wf) (hr : Row w g t (hopC h)) : w.cell? ⟨g, 65, none⟩ = some (.int .i64 h.exp) := (hr.cell 65).trans (hopC_exp hw)
theorem idxHop {b o n c i : Nat} (W : World) (h : i < n) : (Instr.indexAt 22 (.slice (some ⟨b, o, none⟩) n c) (.int .i64 (i : Int))).run Tryz.prog W = .ok (.pointer (some ⟨b, o + i * 66, none⟩)) W := by
 have h1 : (i : Int) < (n : Int) := by omega
 have h2 : (0 : Int) <= (i : Int) := by omega
 have h3 := infoHop
 go_simp
theorem idxEdge {b o n c i : Nat} (W : World) (h : i < n) : (Instr.indexAt 40 (.slice (some ⟨b, o, none⟩) n c) (.int .i64 (i : Int))).run Tryz.prog W = .ok (.pointer (some ⟨b, o + i * 67, none⟩)) W := by
 have h1 : (i : Int) < (n : Int) := by omega
 have h2 : (0 : Int) <= (i : Int) := by omega
 have h3 := infoEdge
 go_simp
theorem loadEdgeM {w : World} {b o : Nat} {e : Rt.Edge} (hw : e.wf) (hr : w.rangeAt b o (edgeL e)) : (Instr.loadAt 44 (.pointer (some ⟨b, o, none⟩))).run Tryz.prog w = .ok (.agg (edgeC e)) w := by
 have := run_loadAt_mid (P := Tryz.prog) w b o 44 (edgeL e) _ hr Tryz.underlying44 rfl (by rw [edgeL_len hw]; exact infoEdge)
 rwa [Array.toArray_toList] at this
theorem newHop (w : World) {h : Hop} (hw : h.wf) : ∃ w', (Instr.storeAt 27 (.pointer (some ⟨w.heap.size, 0, none⟩)) (.agg (hopC h))).run Tryz.prog (w.alloc (.cells (hopC noHop) 27)) = .ok () w' /\ Row w' w.heap.size 27 (hopC h) /\ Later w w' := by
 obtain ⟨w', h1, h2, h3⟩ := storeHop noHop_wf hw (Row.new w 27 (hopC noHop))
 exact ⟨w', h1, h2, Below.grown (below_new w _) h3 (by simp) (fun j e => by cases e; exact Nat.le_refl _)⟩
theorem wrap_one (h : Hop) (hw : h.wf) (hp : paid h.amt h.exp = true) (hn : (h.next == zh) = false) (g : Nat) (w : World) (hr : Row w g 27 (hopC h)) :
  Calls Tryz.prog 9 #[.slice (some ⟨g, 0, none⟩) 1 1] w fun e w' => e = .returned (.tuple #[.string ⟨#[]⟩, .int .i64 2]) /\ Later w w' := by
 refine Calls.post fun Φ HΦ => ?_
 have hpd := fun W => rpaid_any h.amt h.exp W
 rw [hp] at hpd
 have hen := fun W => rends_any h hw W
 rw [hn] at hen
 have hix := fun W => idxHop (b := g) (o := 0) (n := 1) (c := 1) (i := 0) W (by decide)
 have hld := loadHopR hw hr
 obtain ⟨w1, hst, hr1, hL1⟩ := newHop w hw
 have hl5 := fun W (hL : Later w1 W) => loadHopR hw (hr1.later hL)
 have hc2 := fun W (hL : Later w1 W) => cHop2 hw (hr1.later hL)
 have hc3 := fun W (hL : Later w1 W) => cHop3 hw (hr1.later hL)
 go_enter Tryz.func9, Tryz.ntmps9
 go_wp2_with fail
 go_loopw [12] (fun t wr => t = .int .i64 0 /\ wr = w) (fun t _ => 0)
 case atStart => exact ⟨rfl, rfl⟩
 case round =>
  obtain ⟨rfl, rfl⟩ := hrel
  clear hr hr1
  go_upto_region 4 with (first
   | (guard_target =~ wpList _ _ _ (_ :: _) _ _; refine wpList_idx rfl 22 _ _ rfl (.slice (some ⟨g, 0, none⟩) 1 1) (.int .i64 0) rfl rfl (hix _) ?_)
   | (guard_target =~ wpList _ _ _ (_ :: _) _ _; refine wpList_load rfl 27 (.tmp 15) rfl (.pointer (some ⟨g, 0, none⟩)) rfl hld ?_)
   | (with_reducible refine wpList_alloc rfl 27 rfl (allocHop _) ?_)
   | (guard_target =~ wpList _ _ _ (_ :: _) _ _; refine wpList_store rfl 27 (.tmp 5) (.tmp 16) rfl (.pointer (some ⟨wr.heap.size, 0, none⟩)) (.agg (hopC h)) rfl rfl hst ?_)
   | fail)
  obtain ⟨q, hq⟩ : ∃ q, q = wr.heap.size := ⟨_, rfl⟩
  rw [<- hq] at hl5 hc2 hc3 ⊢
  refine wp_region_seqL [Pr.eq (.pointer (some ⟨q, 64, none⟩)), Pr.eq (.int .i64 h.amt), Pr.eq (.pointer (some ⟨q, 65, none⟩)), Pr.eq (.int .i64 h.exp), Pr.eq (.bool true), Pr.eq (.bool false), Pr.eq (.bool false), Pr.eq (.agg (hopC h)), Pr.eq (.agg (hopC h)), Pr.eq (.bool false), Pr.eq (.int .i64 0), Pr.eq (.slice (some ⟨g, 0, none⟩) 1 1), Pr.eq (.int .i64 (1 : Int)), Pr.eq (.int .i64 0), Pr.eq (.bool true), Pr.eq (.bool true), Pr.eq (.bool true)] (by kernel_rfl) (by kernel_rfl) (by kernel_rfl) ⟨?_, ?_, ?_, ?_, ?_, ?_, ?_, ?_, ?_, ?_, ?_, ?_, ?_, ?_, ?_, ?_, ?_, trivial⟩ ?_
  ·exact fun ac W hL he => stepOk_want rfl (op_fieldAddr rfl (he.k 5) fHop2 rfl)
  ·exact fun ac W hL he => stepOk_want rfl (op_load rfl (he.g 0 17) (ldI64 (hc2 W hL)) rfl)
  ·exact fun ac W hL he => stepOk_want rfl (op_fieldAddr rfl (he.k 5) fHop3 rfl)
  ·exact fun ac W hL he => stepOk_want rfl (op_load rfl (he.g 2 19) (ldI64 (hc3 W hL)) rfl)
  ·intro ac W hL he; refine stepOk_want rfl ?_; have e0 : ac.eval (.tmp 18) = .int .i64 h.amt := (he.g 1 18); have e1 : ac.eval (.tmp 20) = .int .i64 h.exp := (he.g 3 20); exact op_callF (vs := #[.int .i64 h.amt, .int .i64 h.exp]) rfl (by simp only [List.map_toArray, List.map_cons, List.map_nil, e0, e1]) (enters_of Tryz.func22 (by kernel_rfl) rfl) (((hpd W)).mono fun e W' ⟨he', hw'⟩ => ⟨_, he', hw' ▸ Later.refl _, rfl⟩)
  ·exact fun ac W hL he => stepOk_want rfl (op_not rfl (he.g 4 21) rfl)
  ·exact fun ac W hL he => stepOk_want rfl (op_move rfl (he.g 5 22))
  ·exact fun ac W hL he => stepOk_yes (j := 6) (t := 23) (b := false) rfl rfl (he.g 6 23) (op_load rfl (he.k 5) (hl5 W hL) rfl)
  ·intro ac W hL he; refine stepOk_yes (j := 6) (t := 23) (b := false) rfl rfl (he.g 6 23) ?_; have e0 : ac.eval (.tmp 24) = .agg (hopC h) := (he.g 7 24); exact op_build (vs := #[(0, .agg (hopC h))]) rfl (by simp only [List.map_toArray, List.map_cons, List.map_nil, e0]) (buildHopR hw W) rfl
  ·intro ac W hL he; refine stepOk_yes (j := 6) (t := 23) (b := false) rfl rfl (he.g 6 23) ?_; have e0 : ac.eval (.tmp 25) = .agg (hopC h) := (he.g 8 25); exact op_callF (vs := #[.agg (hopC h)]) rfl (by simp only [List.map_toArray, List.map_cons, List.map_nil, e0]) (enters_of Tryz.func23 (by kernel_rfl) rfl) (((hen W)).mono fun e W' ⟨he', hb⟩ => ⟨_, he', hb, rfl⟩)
  ·exact fun ac W hL he => stepOk_yes (j := 6) (t := 23) (b := false) rfl rfl (he.g 6 23) (op_move rfl (he.k 4))
  ·exact fun ac W hL he => stepOk_yes (j := 6) (t := 23) (b := false) rfl rfl (he.g 6 23) (op_move rfl (he.k 0))
  ·exact fun ac W hL he => stepOk_yes (j := 6) (t := 23) (b := false) rfl rfl (he.g 6 23) (op_len Tryz.underlying22 rfl (he.g 11 28) rfl)
  ·exact fun ac W hL he => stepOk_yes (j := 6) (t := 23) (b := false) rfl rfl (he.g 6 23) (op_binOp rfl (he.g 12 29) rfl (eqg_any rfl) (by kernel_rfl) rfl)
  ·exact fun ac W hL he => stepOk_yes (j := 6) (t := 23) (b := false) rfl rfl (he.g 6 23) (op_binOp rfl (he.g 10 27) (he.g 13 30) (by kernel_rfl) (by kernel_rfl) rfl)
  ·exact fun ac W hL he => stepOk_yes (j := 6) (t := 23) (b := false) rfl rfl (he.g 6 23) (op_binOp rfl (he.g 9 26) (he.g 14 31) (by kernel_rfl) (by kernel_rfl) rfl)
  ·exact fun ac W hL he => stepOk_want rfl (op_pick (b := false) rfl (he.g 6 23) (he.g 15 32))
  intro xs W hL hx
  have v16 : xs 16 = .bool true := hx 16 (by decide)
  simp only [putL, Nat.reduceAdd, Act.put, List.setIfInBounds_toArray, List.set_cons_succ, List.set_cons_zero]
  rw [v16]
  clear hx
  go_wp2_with fail
  exact HΦ.out _ _ ⟨rfl, hL1.step hL⟩
theorem ba_take (l : List UInt8) (k : Nat) : (⟨l.toArray⟩ : ByteArray).extract 0 k = ⟨(l.take k).toArray⟩ := by
 apply ByteArray.ext
 simp [ByteArray.data_extract]
theorem ba_drop (l : List UInt8) (k : Nat) : (⟨l.toArray⟩ : ByteArray).extract k l.length = ⟨(l.drop k).toArray⟩ := by
 apply ByteArray.ext
 simp [ByteArray.data_extract]
 rw [List.take_of_length_le (by simp)]
theorem ba_app (a b : List UInt8) : (⟨a.toArray⟩ ++ ⟨b.toArray⟩ : ByteArray) = ⟨(a ++ b).toArray⟩ := by
 apply ByteArray.ext
 simp
theorem run_str_to (l : List UInt8) (k : Nat) (h : k <= l.length) (hl : l.length <= 1000000) (w : World) : (Instr.slice 9 (.string ⟨l.toArray⟩) none (some (.int .i64 (k : Int))) none).run Tryz.prog w = .ok (.string ⟨(l.take k).toArray⟩) w := by
 have h1 : (k : Int) <= (l.length : Int) := by omega
 have h2 : (0 : Int) <= (k : Int) := by omega
 have h3 := ba_take l k
 go_simp
theorem run_str_from (l : List UInt8) (k : Nat) (h : k <= l.length) (hl : l.length <= 1000000) (w : World) : (Instr.slice 9 (.string ⟨l.toArray⟩) (some (.int .i64 (k : Int))) none none).run Tryz.prog w = .ok (.string ⟨(l.drop k).toArray⟩) w := by
 have h1 : (k : Int) <= (l.length : Int) := by omega
 have h2 : (0 : Int) <= (k : Int) := by omega
 have h3 := ba_drop l k
 go_simp
theorem run_str_add (a b : List UInt8) (h : a.length + b.length <= 1000000) (w : World) : (binOp .add 9 (.string ⟨a.toArray⟩) (.string ⟨b.toArray⟩)).run Tryz.prog w = .ok (.string ⟨(a ++ b).toArray⟩) w := by
 have h1 : ¬ 9223372036854775807 < a.length + b.length := by omega
 have h2 := ba_app a b
 go_simp
def dg2 (l : List UInt8) (i : Nat) : Nat := (dig (l.getD i 0)).toNat
theorem dg2_lt (l : List UInt8) (i : Nat) : dg2 l i < 16 := by
 have := dig_bd (l.getD i 0)
 unfold dg2
 omega
def byteAt2 (l : List UInt8) (j : Nat) : UInt8 := UInt8.ofNat (dg2 l (2 * j) * 16 + dg2 l (2 * j + 1))
theorem getD_mid (a b : List UInt8) (v : UInt8) (k : Nat) (h : a.length = k) : (a ++ (v :: b)).getD k 0 = v := by
 subst h
 simp [List.getD]
theorem hp_two (l : List UInt8) : ∀ k, k <= 32 -> hp l (2 * k) = (List.range k).map (byteAt2 l) ++ Sha.zeros (32 - k)
 | 0, _ => by simp [hp]
 | k + 1, h => by
  have ih := hp_two l k (by omega)
  have hz : Sha.zeros (32 - k) = 0 :: Sha.zeros (32 - (k + 1)) := by
   unfold Sha.zeros
   rw [show 32 - k = (32 - (k + 1)) + 1 from by omega, List.replicate_succ]
  have hlen : ((List.range k).map (byteAt2 l)).length = k := by simp
  have e1 : hp l (2 * k + 1) = (List.range k).map (byteAt2 l) ++ (UInt8.ofNat (dg2 l (2 * k)) :: Sha.zeros (32 - (k + 1))) := by
   rw [hp, ih, hz, show 2 * k / 2 = k from by omega]
   rw [List.set_append_right _ _ (by rw [hlen]; exact Nat.le_refl _), hlen, Nat.sub_self, List.set_cons_zero]
   congr 2
   rw [getD_mid _ _ _ _ hlen]
   simp [newb, dg2]
  rw [show 2 * (k + 1) = (2 * k + 1) + 1 from by omega, hp, e1, show (2 * k + 1) / 2 = k from by omega]
  rw [List.set_append_right _ _ (by rw [hlen]; exact Nat.le_refl _), hlen, Nat.sub_self, List.set_cons_zero, List.range_succ, List.map_append, List.append_assoc]
  congr 1
  simp only [List.map_cons, List.map_nil, List.cons_append, List.nil_append]
  congr 1
  rw [getD_mid _ _ _ _ hlen]
  have h1 := dg2_lt l (2 * k)
  simp only [newb, byteAt2]
  congr 1
  rw [UInt8.toNat_ofNat', show dig (l.getD (2 * k + 1) 0) = dig (l.getD (2 * k + 1) 0) from rfl]
  unfold dg2 at *
  omega
theorem hp_all (l : List UInt8) : hp l 64 = (List.range 32).map (byteAt2 l) := by
 have := hp_two l 32 (Nat.le_refl _)
 rw [show 2 * 32 = 64 from rfl] at this
 rw [this]
 simp [Sha.zeros]
namespace Rt
def unhex : List UInt8 -> List UInt8
 | a :: b :: r => UInt8.ofNat ((dig a).toNat * 16 + (dig b).toNat) :: unhex r
 | _ => []
def hexOk (l : List UInt8) : Bool := l.all fun c => decide (0 <= dig c)
theorem unhex_len : ∀ l : List UInt8, (unhex l).length = l.length / 2
 | [] => rfl
 | [_] => by simp [unhex]
 | a :: b :: r => by rw [unhex, List.length_cons, unhex_len r]; simp; omega
theorem unhex_app : ∀ (a b : List UInt8), a.length % 2 = 0 -> unhex (a ++ b) = unhex a ++ unhex b
 | [], _, _ => rfl
 | [_], _, h => by simp at h
 | x :: y :: r, b, h => by
  have ih := unhex_app r b (by simp at h; omega)
  show UInt8.ofNat _ :: unhex (r ++ b) = _
  rw [ih]
  rfl
theorem unhex_at : ∀ (l : List UInt8) (k : Nat), 2 * k + 1 < l.length -> (unhex l)[k]? = some (byteAt2 l k)
 | [], _, h => by simp at h
 | [_], _, h => by simp at h
 | x :: y :: r, 0, _ => rfl
 | x :: y :: r, k + 1, h => by
  have ih := unhex_at r k (by simp at h; omega)
  show (unhex r)[k]? = _
  rw [ih]
  unfold byteAt2 dg2
  rw [show 2 * (k + 1) = 2 * k + 1 + 1 by omega, show 2 * k + 1 + 1 + 1 = 2 * k + 1 + 1 + 1 from rfl]
  rfl
theorem hp_unhex {t : List UInt8} (h : t.length = 64) : hp t 64 = unhex t := by
 rw [hp_all]
 apply List.ext_getElem?
 intro k
 by_cases hk : k < 32
 ·rw [unhex_at t k (by omega), List.getElem?_map, List.getElem?_range hk]
  rfl
 ·rw [List.getElem?_eq_none (by simp; omega), List.getElem?_eq_none (by rw [unhex_len]; omega)]
theorem dig_zero : dig 48 = 0 := by decide +kernel
theorem hash_iff (s : List UInt8) (h : s.length <= 64) : isHash (s ++ List.replicate (64 - s.length) 48) ↔ hexOk s = true := by
 have hl : (s ++ List.replicate (64 - s.length) (48 : UInt8)).length = 64 := by simp; omega
 unfold isHash digsTo hexOk
 rw [List.all_eq_true]
 constructor
 ·rintro ⟨_, h2⟩ c hc
  obtain ⟨i, hi, rfl⟩ := List.getElem_of_mem hc
  have := h2 i (by omega)
  rw [List.getD_eq_getElem?_getD, List.getElem?_append_left hi, List.getElem?_eq_getElem hi] at this
  simpa using this
 ·intro h1
  refine ⟨hl, fun i hi => ?_⟩
  rw [List.getD_eq_getElem?_getD]
  by_cases hs : i < s.length
  ·rw [List.getElem?_append_left hs, List.getElem?_eq_getElem hs]
   have := h1 _ (List.getElem_mem hs)
   simpa using this
  ·rw [List.getElem?_append_right (by omega), List.getElem?_replicate]
   rw [if_pos (by omega)]
   simp [dig_zero]
theorem hp_take (s : List UInt8) (h : s.length <= 64) (h2 : s.length % 2 = 0) : (hp (s ++ List.replicate (64 - s.length) 48) 64).take (s.length / 2) = unhex s := by
 rw [hp_unhex (by simp; omega), unhex_app _ _ h2, List.take_left' (unhex_len s)]
end Rt
end Go.Proofs.YtloiaaolnfimgaaGreat
namespace Go.Proofs.YtloiaaolnfimgaaGreat
open Go.RowKit
section
variable {P : Program} {Q : Exit -> Act -> World -> Prop}
structure EnvC (ops : Array Oper) (a0 : Act) (c : Nat -> Value) (so : List Nat) (i : Nat) (a : Act) : Prop where
 keep : ∀ y, keepsB ops i y = true -> a.eval y = a0.eval y
 val : ∀ j t, waits ops i j = true -> dstOf ops j = some t -> so.contains j = false -> a.eval (.tmp t) = c j
 defers : a.defers = a0.defers
theorem EnvC.v {ops : Array Oper} {a0 : Act} {c : Nat -> Value} {so : List Nat} {i : Nat} {a : Act} (h : EnvC ops a0 c so i a) (j t : Nat) (h1 : waits ops i j = true := by kernel_rfl) (h2 : dstOf ops j = some t := by exact rfl) (h3 : so.contains j = false := by exact rfl) : a.eval (.tmp t) = c j := h.val j t h1 h2 h3
theorem EnvC.k {ops : Array Oper} {a0 : Act} {c : Nat -> Value} {so : List Nat} {i : Nat} {a : Act} (h : EnvC ops a0 c so i a) (t : Nat) (h1 : keepsB ops i (.tmp t) = true := by kernel_rfl) : a.eval (.tmp t) = a0.eval (.tmp t) := h.keep _ h1
def ChStep (P : Program) (ops : Array Oper) (Q : Exit -> Act -> World -> Prop) (a0 : Act) (c : Nat -> Value) (so : List Nat) (A : Nat -> World -> Prop) (i : Nat) (o : Oper) : Prop :=
 match so.idxOf? i with
 | some k => (k = 0 \/ waits ops i (so.getD (k - 1) 0) = true) /\ ∀ a W, EnvC ops a0 c so i a -> A k W -> o.guard = none /\ o.wp P a W (fun a' W' => ∃ v, a' = a.put o.dst v /\ A (k + 1) W') Q
 | none => ∀ a W m, EnvC ops a0 c so i a -> A m W -> StepOk P ops Q o a W (fun v _ => v = c i)
theorem chStep_val {ops : Array Oper} {a0 : Act} {c : Nat -> Value} {so : List Nat} {A : Nat -> World -> Prop} {i : Nat} {o : Oper} (h : so.idxOf? i = none) (hs : ∀ a W m, EnvC ops a0 c so i a -> A m W -> StepOk P ops Q o a W (fun v _ => v = c i)) : ChStep P ops Q a0 c so A i o := by
 unfold ChStep
 rw [h]
 exact hs
theorem chStep_put {ops : Array Oper} {a0 : Act} {c : Nat -> Value} {so : List Nat} {A : Nat -> World -> Prop} {i k : Nat} {o : Oper} (h : so.idxOf? i = some k) (hw : k = 0 \/ waits ops i (so.getD (k - 1) 0) = true) (hs : ∀ a W, EnvC ops a0 c so i a -> A k W -> o.guard = none /\ o.wp P a W (fun a' W' => ∃ v, a' = a.put o.dst v /\ A (k + 1) W') Q) : ChStep P ops Q a0 c so A i o := by
 unfold ChStep
 rw [h]
 exact ⟨hw, hs⟩
theorem idxOf_getD {so : List Nat} {i k : Nat} (h : so.idxOf? i = some k) : k < so.length /\ so.getD k 0 = i := by
 unfold List.idxOf? at h
 rw [List.findIdx?_eq_some_iff_getElem] at h
 obtain ⟨hk, h1, _⟩ := h
 refine ⟨hk, ?_⟩
 rw [List.getD_eq_getElem?_getD, List.getElem?_eq_getElem hk]
 simpa using h1
theorem idxOf_none {so : List Nat} {i : Nat} (h : so.idxOf? i = none) (k : Nat) (hk : k < so.length) : so.getD k 0 ≠ i := by
 unfold List.idxOf? at h
 rw [List.findIdx?_eq_none_iff] at h
 have := h so[k] (List.getElem_mem hk)
 rw [List.getD_eq_getElem?_getD, List.getElem?_eq_getElem hk]
 simpa using this
theorem wpIn_region_chain {F : Fence} (hF : Wide F) {n : Nat} {id : Nat} {o : Oper} {os : List Oper} {a0 : Act} {w : World} (cs : List Value) (so : List Nat) (A : Nat -> World -> Prop) (hA : ∀ m W W', Later W W' -> A m W -> A m W') (hA0 : A 0 w)
  (hm : P.follows .mixedOrders = true) (hp : plainAll (o :: os).toArray = true) (hd : dstsB (o :: os).toArray = true) (hb : backB (o :: os).toArray = true) (ha : ancB (o :: os).toArray = true) (hin : dstIn (o :: os).toArray a0.tmps.size = true) (hg : (lastL o os).guard = none)
  (hnd : so.Nodup) (hso : (so.all fun i => decide (i < (initL o os).length)) = true)
  (step : AllFrom (ChStep P (o :: os).toArray Q a0 (fun i => cs.getD i undef) so A) 0 (initL o os))
  (fin : ∀ xs W, A so.length W -> (∀ j, j < (initL o os).length -> so.contains j = false -> xs j = cs.getD j undef) -> (∀ y, keepsB (o :: os).toArray (initL o os).length y = true -> (putL (initL o os) 0 xs a0).eval y = a0.eval y) -> (∀ j t, j < (initL o os).length -> dstOf (o :: os).toArray j = some t -> (putL (initL o os) 0 xs a0).eval (.tmp t) = xs j) ->
   LastOk P (lastL o os) (putL (initL o os) 0 xs a0) W Q) : (Code.region id (o :: os).toArray true).wpIn F n P Q a0 w := by
 refine wpIn_region_lastY hF (fun f xs W => (∀ i, f i = true -> so.contains i = false -> xs i = cs.getD i undef) /\ ∃ m, m <= so.length /\ (∀ k, k < so.length -> f (so.getD k 0) = decide (k < m)) /\ A m W) ⟨fun i h => by simp at h, 0, Nat.zero_le _, fun k _ => by simp, hA _ _ _ ((Later.refl w).drew) hA0⟩ hm hp hd hb ha hin hg ?_ ?_
 ·have key : ∀ (l : List Oper) (i : Nat), AllFrom (ChStep P (o :: os).toArray Q a0 (fun i => cs.getD i undef) so A) i l -> AllFrom (fun i o' => ∀ a W f xs, ((∀ i, f i = true -> so.contains i = false -> xs i = cs.getD i undef) /\ ∃ m, m <= so.length /\ (∀ k, k < so.length -> f (so.getD k 0) = decide (k < m)) /\ A m W) -> EnvY (o :: os).toArray a0 f i a xs ->
    StepOkY P (o :: os).toArray Q o' a W (fun v W' => (∀ j, updB f i j = true -> so.contains j = false -> upd xs i v j = cs.getD j undef) /\ ∃ m, m <= so.length /\ (∀ k, k < so.length -> updB f i (so.getD k 0) = decide (k < m)) /\ A m W')) i l := by
   intro l
   induction l with
   | nil => intro i h; exact h
   | cons o' l ih =>
    intro i h
    obtain ⟨h1, h2⟩ := h
    refine ⟨fun a W f xs hI he => ?_, ih _ h2⟩
    obtain ⟨hc, m, hml, hfm, hAm⟩ := hI
    have henv : EnvC (o :: os).toArray a0 (fun i => cs.getD i undef) so i a := ⟨he.keep, fun j t hw ht hj => (he.val j t hw ht).trans (hc j (he.done j hw) hj), he.defers⟩
    unfold ChStep at h1
    cases hk : so.idxOf? i with
    | some k =>
     rw [hk] at h1
     obtain ⟨hw, h3⟩ := h1
     obtain ⟨hkl, hki⟩ := idxOf_getD hk
     have e1 : ¬ k < m := by
      have := hfm k hkl
      rw [hki, he.todo] at this
      intro h
      rw [decide_eq_true h] at this
      cases this
     have e2 : k <= m := by
      rcases hw with h | h
      ·omega
      ·by_cases h0 : k = 0
       ·omega
       have h4 := he.done _ h
       rw [hfm (k - 1) (by omega)] at h4
       have := of_decide_eq_true h4
       omega
     obtain rfl : k = m := by omega
     obtain ⟨hg', h4⟩ := h3 a W henv hAm
     have hsc : so.contains i = true := by
      rw [List.contains_iff_mem, <- hki, List.getD_eq_getElem?_getD, List.getElem?_eq_getElem hkl]
      exact List.getElem_mem hkl
     refine stepOkY_want hg' (Oper.wp_mono (fun a' W' ⟨v, e, hv⟩ => ⟨v, e, fun j hj hjs => ?_, k + 1, hkl, fun k' hk' => ?_, hv⟩) h4)
     ·have hji : j ≠ i := fun e => by rw [e, hsc] at hjs; cases hjs
      rw [upd_ne xs v hji]
      exact hc j (by simpa [updB, hji] using hj) hjs
     ·by_cases e : k' = k
      ·subst e
       rw [hki]
       simp [updB]
      ·have hne : so.getD k' 0 ≠ i := fun e3 => e (by
        rw [<- hki, List.getD_eq_getElem?_getD, List.getD_eq_getElem?_getD, List.getElem?_eq_getElem hkl, List.getElem?_eq_getElem hk'] at e3
        exact (List.getElem_inj hnd).1 e3)
       have := hfm k' hk'
       simp only [updB, if_neg hne, this]
       exact decide_eq_decide.2 (by omega)
    | none =>
     rw [hk] at h1
     have h4 := h1 a W m henv hAm
     have hR : ∀ v W', Later W W' -> v = cs.getD i undef -> (∀ j, updB f i j = true -> so.contains j = false -> upd xs i v j = cs.getD j undef) /\ ∃ m, m <= so.length /\ (∀ k, k < so.length -> updB f i (so.getD k 0) = decide (k < m)) /\ A m W' := fun v W' hL hv => by
      refine ⟨fun j hj hjs => ?_, m, hml, fun k hkl => ?_, hA _ _ _ hL hAm⟩
      ·by_cases e : j = i
       ·subst e; rw [upd_self]; exact hv
       ·rw [upd_ne xs v e]
        exact hc j (by simpa [updB, e] using hj) hjs
      ·have hne := idxOf_none hk k hkl
       simp only [updB, if_neg hne]
       exact hfm k hkl
     unfold StepOk at h4
     unfold StepOkY
     split
     ·rename_i hw
      rw [if_pos hw] at h4
      exact Oper.wp_mono (fun a' W' ⟨v, e, hL, hv⟩ => ⟨v, e, hR v W' hL hv⟩) h4
     ·rename_i hw
      rw [if_neg hw] at h4
      exact hR _ _ (Later.refl W) h4
  exact key _ _ step
 ·intro f xs W hI hall _ hk hget
  obtain ⟨hc, m, hml, hfm, hAm⟩ := hI
  have hmm : m = so.length := by
   by_cases e : m = so.length
   ·exact e
   have hlt : m < so.length := by omega
   have h1 := hfm m hlt
   rw [hall] at h1
   ·simp at h1
   ·have := List.all_eq_true.1 hso (so.getD m 0) (by
     rw [List.getD_eq_getElem?_getD, List.getElem?_eq_getElem hlt]
     exact List.getElem_mem hlt)
    exact of_decide_eq_true this
  subst hmm
  exact fin xs W hAm (fun j hj hjs => hc j (hall j hj) hjs) hk hget
end
def Put1 (B : Nat) (T : TypeId) (C : Array Value -> Prop) (W W' : World) : Prop := ∃ g cs cs', B <= g /\ C cs /\ C cs' /\ Row W g T cs /\ Row W' g T cs' /\ W.grownBy W' (some g)
theorem Put1.later {w W W' : World} {T : TypeId} {C : Array Value -> Prop} (hL : Later w W) (h : Put1 w.heap.size T C W W') : Later w W' := by
 obtain ⟨g, cs, cs', hg, _, _, _, _, hgr⟩ := h
 exact Below.grown hL hgr hL.size (fun j e => by cases e; exact hg)
def Pr.newT (B : Nat) (T : TypeId) (C : Array Value -> Prop) : Pr := ⟨fun v W => ∃ (g : Nat) (cs : Array Value), v = .pointer (some ⟨g, 0, none⟩) /\ B <= g /\ C cs /\ Row W g T cs, fun _ _ _ ⟨g, cs, e, hb, hz, h⟩ hL => ⟨g, cs, e, hb, hz, h.later hL⟩⟩
def PutOk (B : Nat) (T : TypeId) (C : Array Value -> Prop) (p : Pr) : Prop := ∀ v W W', p.R v W -> Put1 B T C W W' -> p.R v W'
theorem putOk_eq {B : Nat} {T : TypeId} {C : Array Value -> Prop} {c : Value} : PutOk B T C (Pr.eq c) := fun _ _ _ h _ => h
theorem putOk_any {B : Nat} {T : TypeId} {C : Array Value -> Prop} : PutOk B T C Pr.any := fun _ _ _ h _ => h
theorem putOk_new {B : Nat} {T : TypeId} {C : Array Value -> Prop} : PutOk B T C (Pr.newT B T C) := fun v W W' ⟨g, cs, e, hb, hz, hr⟩ ⟨g', c1, c2, hg', _, hz2, hr1, hr2, hgr⟩ => by
 by_cases h : g = g'
 ·subst h
  exact ⟨g, c2, e, hb, hz2, hr2⟩
 ·exact ⟨g, cs, e, hb, hz, hr.grown hgr (fun e' => h (Option.some.inj e'))⟩
theorem waits_lt {ops : Array Oper} (hb : backB ops = true) {i j : Nat} (hi : i < ops.size) (hw : waits ops i j = true) : j < i := by
 unfold waits at hw
 unfold backB at hb
 rw [List.all_eq_true] at hb
 have h1 := hb i (List.mem_range.2 hi)
 rw [Array.getElem?_eq_getElem hi] at hw h1
 simp only at hw h1
 obtain ⟨q, hq, h2⟩ := Array.any_eq_true.1 hw
 simp at h2
 rw [Array.all_eq_true_iff_forall_mem] at h1
 have h3 := h1 _ (Array.getElem_mem hq)
 rw [h2.1] at h3
 simp at h3
 omega
def AllPut (B : Nat) (T : TypeId) (C : Array Value -> Prop) : List Pr -> Prop
 | [] => True
 | p :: ps => PutOk B T C p /\ AllPut B T C ps
theorem AllPut.vof {B : Nat} {T : TypeId} {C : Array Value -> Prop} : ∀ (Vs : List Pr), AllPut B T C Vs -> ∀ j v W W', Vof Vs j v W -> Put1 B T C W W' -> Vof Vs j v W'
 | [], _, j, v, W, W', _, _ => by unfold Vof; simp
 | p :: ps, h, 0, v, W, W', hv, hp => by
  unfold Vof at *
  simp only [List.getElem?_cons_zero] at *
  exact h.1 v W W' hv hp
 | p :: ps, h, j + 1, v, W, W', hv, hp => by
  have ih := AllPut.vof ps h.2 j v W W'
  unfold Vof at *
  simp only [List.getElem?_cons_succ] at *
  exact ih hv hp
section
variable {P : Program} {Q : Exit -> Act -> World -> Prop}
def PutStep (P : Program) (ops : Array Oper) (Q : Exit -> Act -> World -> Prop) (a0 : Act) (w : World) (Vs : List Pr) (p s : Nat) (T : TypeId) (C : Array Value -> Prop) (FS : Array Value -> World -> Prop) (i : Nat) (o : Oper) : Prop :=
 if i = s then ∃ y, o.guard = none /\ o.dst = none /\ (∃ t, dstOf ops p = some t /\ o.op = .store T (.tmp t) y) /\ waits ops s p = true /\
  (∀ a W g cs, Later w W -> Env ops a0 (Vof Vs) i a W -> w.heap.size <= g -> C cs -> Row W g T cs -> ∃ W' cs', (Instr.storeAt T (.pointer (some ⟨g, 0, none⟩)) (a.eval y)).run P W = .ok () W' /\ Row W' g T cs' /\ C cs' /\ W.grownBy W' (some g) /\ FS cs' W')
 else ∀ a W, Later w W -> Env ops a0 (Vof Vs) i a W -> StepOk P ops Q o a W (Vof Vs i)
theorem putStep_val {ops : Array Oper} {a0 : Act} {w : World} {Vs : List Pr} {p s : Nat} {T : TypeId} {C : Array Value -> Prop} {FS : Array Value -> World -> Prop} {i : Nat} {o : Oper} (h : i ≠ s) (hs : ∀ a W, Later w W -> Env ops a0 (Vof Vs) i a W -> StepOk P ops Q o a W (Vof Vs i)) : PutStep P ops Q a0 w Vs p s T C FS i o := by
 unfold PutStep
 rw [if_neg h]
 exact hs
theorem putStep_put {ops : Array Oper} {a0 : Act} {w : World} {Vs : List Pr} {p s : Nat} {T : TypeId} {C : Array Value -> Prop} {FS : Array Value -> World -> Prop} {o : Oper} (y : Operand) (t : Tmp) (h1 : o.guard = none) (h2 : o.dst = none) (h3 : dstOf ops p = some t) (h4 : o.op = .store T (.tmp t) y) (h5 : waits ops s p = true)
  (h : ∀ a W g cs, Later w W -> Env ops a0 (Vof Vs) s a W -> w.heap.size <= g -> C cs -> Row W g T cs -> ∃ W' cs', (Instr.storeAt T (.pointer (some ⟨g, 0, none⟩)) (a.eval y)).run P W = .ok () W' /\ Row W' g T cs' /\ C cs' /\ W.grownBy W' (some g) /\ FS cs' W') : PutStep P ops Q a0 w Vs p s T C FS s o := by
 unfold PutStep
 rw [if_pos rfl]
 exact ⟨y, h1, h2, ⟨t, h3, h4⟩, h5, h⟩
theorem wpIn_region_put {F : Fence} (hF : Wide F) {n : Nat} {id : Nat} {o : Oper} {os : List Oper} {a0 : Act} {w : World} (Vs : List Pr) (p s : Nat) (T : TypeId) (C : Array Value -> Prop) (FS : Array Value -> World -> Prop) (hFS : ∀ cs W W', FS cs W -> Later W W' -> FS cs W')
  (hps : Vs[p]? = some (Pr.newT w.heap.size T C)) (hVs : Vs[s]? = some Pr.any) (hall : AllPut w.heap.size T C Vs) (hm : P.follows .mixedOrders = true) (hp : plainAll (o :: os).toArray = true) (hd : dstsB (o :: os).toArray = true) (hb : backB (o :: os).toArray = true) (ha : ancB (o :: os).toArray = true) (hin : dstIn (o :: os).toArray a0.tmps.size = true) (hg : (lastL o os).guard = none)
  (hsl : s < (initL o os).length) (hsw : waits (o :: os).toArray s p = true)
  (step : AllFrom (PutStep P (o :: os).toArray Q a0 w Vs p s T C FS) 0 (initL o os))
  (fin : ∀ xs W, Later w W -> (∀ j, j < (initL o os).length -> Vof Vs j (xs j) W) -> (∃ g cs, xs p = .pointer (some ⟨g, 0, none⟩) /\ w.heap.size <= g /\ Row W g T cs /\ FS cs W) -> (∀ x, keepsB (o :: os).toArray (initL o os).length x = true -> (putL (initL o os) 0 xs a0).eval x = a0.eval x) -> (∀ j t, j < (initL o os).length -> dstOf (o :: os).toArray j = some t -> (putL (initL o os) 0 xs a0).eval (.tmp t) = xs j) ->
   LastOk P (lastL o os) (putL (initL o os) 0 xs a0) W Q) : (Code.region id (o :: os).toArray true).wpIn F n P Q a0 w := by
 have hV1 : ∀ j v W W', Vof Vs j v W -> (Later W W' \/ Put1 w.heap.size T C W W') -> Vof Vs j v W' := fun j v W W' h1 h2 => by
  rcases h2 with h2 | h2
  ·exact Vof.st Vs j v W W' h1 h2
  ·exact AllPut.vof Vs hall j v W W' h1 h2
 refine wpIn_region_lastX hF (fun i W W' => if i = s then W = W' \/ Put1 w.heap.size T C W W' else Later W W') (fun _ W => Later w W) (fun i W => ?_) (fun i W W' hG ht => ?_) ((Later.refl w).drew)
  (fun j xs W => Vof Vs j (xs j) W /\ (j = s -> ∃ g cs, xs p = .pointer (some ⟨g, 0, none⟩) /\ w.heap.size <= g /\ Row W g T cs /\ FS cs W)) (fun i j xs v W W' hj hne hw h ht => ?_) hm hp hd hb ha hin hg ?_ ?_
 ·show if i = s then W = W \/ Put1 w.heap.size T C W W else Later W W
  by_cases h : i = s
  ·rw [if_pos h]; exact .inl rfl
  ·rw [if_neg h]; exact Later.refl W
 ·by_cases h : i = s
  ·rw [if_pos h] at ht
   rcases ht with rfl | ht
   ·exact hG
   ·exact Put1.later hG ht
  ·rw [if_neg h] at ht
   exact hG.step ht
 ·refine ⟨?_, fun e => ?_⟩
  ·rw [upd_ne xs v hne]
   refine hV1 j _ W W' h.1 ?_
   by_cases hi : i = s
   ·rw [if_pos hi] at ht
    rcases ht with rfl | ht
    ·exact .inl (Later.refl W)
    ·exact .inr ht
   ·rw [if_neg hi] at ht
    exact .inl ht
  ·have hip : i ≠ p := fun e2 => by
    rw [e, e2, hsw] at hw
    cases hw
   have his : i ≠ s := fun e2 => hne (e.trans e2.symm)
   rw [if_neg his] at ht
   obtain ⟨g, cs, h1, h2, h3, h4⟩ := h.2 e
   exact ⟨g, cs, (upd_ne xs v (fun e => hip e.symm)).trans h1, h2, h3.later ht, hFS _ _ _ h4 ht⟩
 ·have key : ∀ (l : List Oper) (i : Nat), i + l.length <= (initL o os).length -> (∀ j, l[j]? = (o :: os).toArray[i + j]? \/ l.length <= j) -> AllFrom (PutStep P (o :: os).toArray Q a0 w Vs p s T C FS) i l -> AllFrom (fun i o' => ∀ a W xs, Later w W -> EnvX (o :: os).toArray a0 (fun j xs W => Vof Vs j (xs j) W /\ (j = s -> ∃ g cs, xs p = .pointer (some ⟨g, 0, none⟩) /\ w.heap.size <= g /\ Row W g T cs /\ FS cs W)) i a W xs ->
    StepOkE P (o :: os).toArray Q (fun W W' => if i = s then W = W' \/ Put1 w.heap.size T C W W' else Later W W') o' a W (fun v W' => Vof Vs i (upd xs i v i) W' /\ (i = s -> ∃ g cs, upd xs i v p = .pointer (some ⟨g, 0, none⟩) /\ w.heap.size <= g /\ Row W' g T cs /\ FS cs W'))) i l := by
   intro l
   induction l with
   | nil => intro i _ _ h; exact h
   | cons o' l ih =>
    intro i hil hos h
    obtain ⟨h1, h2⟩ := h
    refine ⟨fun a W xs hL he => ?_, ih (i + 1) (by simp at hil; omega) (fun j => ?_) h2⟩
    ·have h3 : i < (o :: os).toArray.size := by
      have : (initL o os).length + 1 = (o :: os).length := by
       have := congrArg List.length (init_last os o)
       simpa using this
      simp at hil ⊢
      simp at this
      omega
     have hlt : ∀ j, waits (o :: os).toArray i j = true -> j < (o :: os).toArray.size := fun j hw => Nat.lt_trans (waits_lt hb h3 hw) h3
     have henv : Env (o :: os).toArray a0 (Vof Vs) i a W := ⟨he.keep, fun j t hw ht => by rw [he.val j t hw ht]; exact (he.get j (hlt j hw) hw).1⟩
     unfold PutStep at h1
     by_cases hi : i = s
     ·rw [if_pos hi] at h1
      obtain ⟨y, g1, g2, ⟨t, g3, g4⟩, g5, g6⟩ := h1
      have hwp : waits (o :: os).toArray i p = true := by rw [hi]; exact hsw
      have hvp := henv.get p t hwp g3
      have hxp := he.val p t hwp g3
      unfold Vof at hvp
      rw [hps] at hvp
      obtain ⟨g, cs, e1, e2, e3, e4⟩ := hvp
      obtain ⟨W', cs', f1, f2, f3, f4, f5⟩ := g6 a W g cs hL henv e2 e3 e4
      have hip : p ≠ i := fun e => by have := waits_lt hb h3 hwp; omega
      refine stepOkE_want g1 ?_
      unfold Oper.wp execOp
      simp only [g4, e1, f1, Sem.run_bind, Sem.run_pure, Result.andThen_ok, Oper.upon, g2]
      refine ⟨undef, rfl, ?_, ?_, fun _ => ?_⟩
      ·show if i = s then _ else _
       rw [if_pos hi]
       exact .inr ⟨g, cs, cs', e2, e3, f3, e4, f2, f4⟩
      ·unfold Vof
       rw [hi, hVs]
       trivial
      ·exact ⟨g, cs', (upd_ne xs undef hip).trans (hxp.symm.trans e1), e2, f2, f5⟩
     ·rw [if_neg hi] at h1
      have h3 := h1 a W hL henv
      unfold StepOk at h3
      unfold StepOkE
      split
      ·rename_i hw
       rw [if_pos hw] at h3
       exact Oper.wp_mono (fun a' W' ⟨v, e, hL', hv⟩ => ⟨v, e, by first | exact hL' | (rw [if_neg hi]; exact hL'), by rw [upd_self]; exact hv, fun e => absurd e hi⟩) h3
      ·rename_i hw
       rw [if_neg hw] at h3
       exact ⟨by rw [upd_self]; exact h3, fun e => absurd e hi⟩
    ·rcases hos (j + 1) with h | h
     ·left
      rw [List.getElem?_cons_succ] at h
      rw [h]
      congr 1
      omega
     ·right
      simp at h
      omega
  refine key _ 0 (by simp) (fun j => ?_) step
  by_cases hj : j < (initL o os).length
  ·left
   rw [Nat.zero_add]
   have e := init_last os o
   rw [List.getElem?_toArray, <- e, List.getElem?_append_left hj]
  ·right; omega
 ·exact fun xs W hL hx hk hg' => fin xs W hL (fun j hj => (hx j hj).1) ((hx s hsl).2 rfl) hk hg'
end
end Go.Proofs.YtloiaaolnfimgaaGreat
