/- Walks of the document's answers: a step, a byte, a sum, the table. -/
import Derived.Test.YtkgpagkhheglgaaCrcW5
namespace Go.Proofs.Ytkgpagkhheglgaa
open Go.RowKit
theorem refStep_any (x : BitVec 32) (w : World) : Calls Try.prog 38 #[.int .u32 (x.toNat : Int)] w fun e w' => e = .returned (.int .u32 ((Crc.step x).toNat : Int)) ∧ w = w' := by
  have h1 := x.isLt
  by_cases hb : x.toNat % 2 = 1
  · have hd : ((x.toNat : Int) % 2 == 1) = true := by rw [beq_iff_eq]; omega
    have hv : bits .xor .u32 ((x.toNat : Int) / 2) 2197175160 = ((Crc.step x).toNat : Int) := by
      rw [← Crc.step_val]
      congr 1
      rw [show (1 : Int) = ((1 : Nat) : Int) from rfl, u32_and_nat _ _ x.isLt (by decide), nat_mask1, hb]
      rfl
    have HV := Lib.hid hv
    clear hv hb
    go_enter Try.func38, Try.ntmps38
    go_wp2
    go_ret
    exact ⟨by rw [← HV.out]; rfl, rfl⟩
  · have hd : ((x.toNat : Int) % 2 == 1) = false := by rw [beq_eq_false_iff_ne]; omega
    have hv : (x.toNat : Int) / 2 = ((Crc.step x).toNat : Int) := by
      rw [← Crc.step_val]
      rw [show (1 : Int) = ((1 : Nat) : Int) from rfl, u32_and_nat _ _ x.isLt (by decide), nat_mask1, show x.toNat % 2 = 0 from by omega]
      rw [show ((0 : Nat) : Int) * 2197175160 % 4294967296 = ((0 : Nat) : Int) from rfl, show (x.toNat : Int) / 2 = ((x.toNat / 2 : Nat) : Int) from by omega, u32_xor_nat _ _ (by omega) (by decide)]
      simp
    have HV := Lib.hid hv
    clear hv hb
    go_enter Try.func38, Try.ntmps38
    go_wp2
    go_ret
    exact ⟨by rw [← HV.out]; rfl, rfl⟩
theorem zx_toNat (c : UInt8) : (Crc.zx c).toNat = c.toNat := by
  unfold Crc.zx
  rw [BitVec.toNat_setWidth]
  have := c.toNat_lt
  exact Nat.mod_eq_of_lt (by show c.toNat < _; omega)
set_option maxHeartbeats 400000 in
theorem refByte_any (x : BitVec 32) (c : UInt8) (w : World) : Calls Try.prog 28 #[.int .u32 (x.toNat : Int), .int .u8 (c.toNat : Int)] w fun e w' => e = .returned (.int .u32 ((Crc.byteOn x c).toNat : Int)) ∧ w = w' := by
  have h1 := x.isLt
  have h2 := c.toNat_lt
  obtain ⟨y, hy⟩ : ∃ y, y = x ^^^ Crc.zx c := ⟨_, rfl⟩
  have hyb : bits .xor .u32 (x.toNat : Int) (c.toNat : Int) = (y.toNat : Int) := by rw [hy, ← Crc.u32_xor_bv, zx_toNat]
  have HY := Lib.hid hy
  clear hy
  go_enter Try.func28, Try.ntmps28
  go_wp2
  go_loop [0, 5] (fun v t => ∃ k : Nat, k ≤ 8 ∧ t = .int .i64 k ∧ v = .int .u32 ((Crc.steps k y).toNat : Int)) (fun _ t => 8 - (intOf t).toNat)
  case atStart => exact ⟨0, by omega, rfl, rfl⟩
  case round =>
    obtain ⟨k, hk, rfl, rfl⟩ := hrel
    by_cases hlt : k < 8
    · go_wp2_with (first | (go_at_call 38; refine (refStep_any _ _).mono ?_; rintro e w' ⟨rfl, rfl⟩))
      go_round
      case rel => exact ⟨k + 1, by omega, by go_num, rfl⟩
      case measure => simp [intOf]; omega
    · obtain rfl : k = 8 := by omega
      have hf : Crc.byteOn x c = Crc.steps 8 y := by rw [HY.out]; rfl
      have HF := Lib.hid hf
      clear hf
      go_wp2
      go_ret
      exact ⟨by rw [HF.out]; rfl, rfl⟩
theorem sub_not (s : BitVec 32) : 4294967295 - (s.toNat : Int) = ((~~~s).toNat : Int) := by
  have := s.isLt
  rw [BitVec.toNat_not]; omega
set_option maxHeartbeats 400000 in
theorem refMore_any (s : BitVec 32) (A : Option Addr) (n c : Nat) (l : List UInt8) (w : World) (hn : l.length = n) (hm : n ≤ 1099511627776) (hr : Rd w A l) :
    Calls Try.prog 15 #[.int .u32 (s.toNat : Int), .slice A n c] w fun e w' => e = .returned (.int .u32 ((Crc.more s l).toNat : Int)) ∧ w = w' := by
  subst hn
  have hs := s.isLt
  obtain ⟨y, hy⟩ : ∃ y, y = ~~~s := ⟨_, rfl⟩
  have hyb : 4294967295 - (s.toNat : Int) = (y.toNat : Int) := by rw [hy]; exact sub_not s
  have HY := Lib.hid hy
  clear hy
  go_enter Try.func15, Try.ntmps15
  go_wp2
  go_loop [5, 6] (fun v t => ∃ k : Nat, k ≤ l.length ∧ t = .int .i64 k ∧ v = .int .u32 ((Crc.run y (l.take k)).toNat : Int)) (fun _ t => l.length - (intOf t).toNat)
  case atStart => exact ⟨0, by omega, rfl, rfl⟩
  case round =>
    obtain ⟨k, hk, rfl, rfl⟩ := hrel
    by_cases hlt : k < l.length
    · obtain ⟨b, o, rfl, hc⟩ := hr.at_ hlt
      have hnext : Crc.run y (l.take (k + 1)) = Crc.byteOn (Crc.run y (l.take k)) l[k] := by
        rw [List.take_succ_eq_append_getElem hlt, Crc.run_snoc]
      have HN := Lib.hid hnext
      clear hnext
      generalize Crc.run y (l.take k) = z at *
      replace hc : w.cell? ⟨b, o + k, none⟩ = some (.int .u8 (l[k].toNat : Int)) := hc
      generalize l[k] = q at *
      go_wp2_with (first | (go_at_call 28; refine (refByte_any _ _ _).mono ?_; rintro e w' ⟨rfl, rfl⟩))
      go_round
      case rel => exact ⟨k + 1, by omega, by go_num, by rw [HN.out]⟩
      case measure => simp [intOf]; omega
    · obtain rfl : k = l.length := by omega
      rw [List.take_length]
      obtain ⟨z, hz⟩ : ∃ z, Crc.run y l = z := ⟨_, rfl⟩
      obtain ⟨v, hv⟩ : ∃ v, v = ~~~z := ⟨_, rfl⟩
      have hzb : 4294967295 - (z.toNat : Int) = (v.toNat : Int) := by rw [hv]; exact sub_not z
      have hfin : Crc.more s l = v := by rw [Crc.more, ← HY.out, hz, hv]
      have HF := Lib.hid hfin
      rw [hz]
      clear hz hv hfin
      have hzl := z.isLt
      go_wp2
      go_ret
      exact ⟨by rw [HF.out]; rfl, rfl⟩
theorem refSum_any (A : Option Addr) (n c : Nat) (l : List UInt8) (w : World) (hn : l.length = n) (hm : n ≤ 1099511627776) (hr : Rd w A l) :
    Calls Try.prog 14 #[.slice A n c] w fun e w' => e = .returned (.int .u32 ((Crc.sum l).toNat : Int)) ∧ w = w' := by
  have HN := Lib.hid hn
  clear hn
  go_enter Try.func14, Try.ntmps14
  go_wp2_with (first | (go_at_call 15; refine (refMore_any 0#32 A n c l _ HN.out hm hr).mono ?_; rintro e w1 ⟨rfl, rfl⟩))
  go_ret
  exact ⟨rfl, rfl⟩
theorem tab_byte (k : Nat) (h : k < 256) : Crc.byteOn 0#32 (UInt8.ofNat k) = Crc.tab k := by
  unfold Crc.byteOn Crc.tab
  congr 1
  apply BitVec.eq_of_toNat_eq
  have e1 : (BitVec.ofNat 32 k).toNat = k := by rw [BitVec.toNat_ofNat]; omega
  have e2 : (UInt8.ofNat k).toNat = k := by rw [UInt8.toNat_ofNat']; omega
  rw [BitVec.toNat_xor, zx_toNat, e1, e2]
  simp
theorem refTab_any (k : Nat) (h : k < 256) (w : World) : Calls Try.prog 28 #[.int .u32 0, .int .u8 (k : Int)] w fun e w' => e = .returned (.int .u32 ((Crc.tab k).toNat : Int)) ∧ w = w' := by
  have e : (k : Int) = ((UInt8.ofNat k).toNat : Int) := by rw [UInt8.toNat_ofNat']; omega
  rw [e, ← tab_byte k h]
  exact refByte_any 0#32 _ w
set_option maxRecDepth 100000 in
set_option maxHeartbeats 400000 in
theorem refTable_any (w : World) :
    Calls Try.prog 17 #[] w fun e w' => e = .returned (.agg tabCells) ∧ Below w.heap.size w w' := by
  have hz : Hid (tabTo 0 = z33) := tabTo_zero
  go_enter Try.func17, Try.ntmps17
  go_wp2_with (first
    | (with_reducible refine wpList_alloc rfl 33 rfl (alloc33 _) ?_))
  go_loopw [2] (fun t wr => ∃ k : Nat, k ≤ 256 ∧ t = .int .i64 k ∧ Row wr (w.heap.size + 1) 33 (tabTo k) ∧ Row wr w.heap.size 33 z33 ∧ Below w.heap.size w wr) (fun t _ => 256 - (intOf t).toNat)
  case atStart => exact ⟨0, by omega, rfl, by rw [hz.out]; have := Row.new (w.alloc (.cells z33 33)) 33 z33; simpa using this, (Row.new w 33 z33).alloc _, below_new2 _ _ _⟩
  case round =>
    obtain ⟨k, hk, rfl, hrow, hrow0, hb⟩ := hrel
    by_cases hlt8 : k < 256
    · have hc : wr.cell? ⟨w.heap.size + 1, k, none⟩ = some ((tabTo k)[k]'(by rw [tabTo_size]; exact hlt8)) := (hrow.cell k).trans (Array.getElem?_eq_getElem _)
      have hf := hrow.frozen k
      go_wp2_with (first | (go_at_call 28; refine (refTab_any k hlt8 _).mono ?_; rintro e w1 ⟨rfl, rfl⟩))
      go_roundw
      case rel => exact ⟨k + 1, by omega, by go_num, by rw [← tabTo_set k hlt8]; exact (hrow.set k _), hrow0.far (by simp) _, hb.setCell (p := ⟨w.heap.size + 1, k, none⟩) (by simp) _⟩
      case measure => simp [intOf]; omega
    · obtain rfl : k = 256 := by omega
      have hr : Row wr (w.heap.size + 1) 33 tabCells := by rw [← tabTo_all]; exact hrow
      go_wp2_with (first
        | (refine wpList_load_row rfl 33 (.tmp 1) rfl (w.heap.size + 1) rfl 33 tabCells (0, 0) _ hr Try.underlying33 rfl (by rw [tab_size]; exact info33) ?_)
        | (refine wpList_store rfl 33 (.tmp 0) (.tmp 12) rfl (.pointer (some ⟨w.heap.size, 0, none⟩)) (.agg tabCells) rfl rfl (run_store_row hrow0 tabCells (by rw [tab_size]; exact info33) (by simp [tab_size, z33]) tab_one) ?_))
      have hr2 := row_setCells tabCells.toList 0 wr z33 hrow0
      rw [setFrom_whole _ _ (by simp [tab_size, z33]), Array.toArray_toList] at hr2
      refine bodyPost_ret (results_cell_row rfl _ _ w.heap.size 33 tabCells (0, 0) _ rfl hr2 Try.underlying33 rfl (by rw [tab_size]; exact info33)) rfl ⟨rfl, hb.trans (below_of_grown (grown_setCells _ _ _) (Nat.le_refl _) hb.size)⟩
theorem tab_eql (w : World) : (binOp .eql 33 (.agg tabCells) (.agg tabCells)).run Try.prog w = .ok (.bool true) w := by kernel_rfl
theorem tab_guard (w : World) (x y : Operand) : (eqGuard .eql 33 x y (.agg tabCells) (.agg tabCells)).run Try.prog w = .ok () w := by kernel_rfl
theorem crcTable_walk (w : World) : Calls Try.prog 4 #[] w fun e w' => e = .returned (.bool true) ∧ Below w.heap.size w w' := by
  go_enter Try.func4, Try.ntmps4
  go_wp2_with fail
  refine (table_any _).mono ?_
  rintro e w1 ⟨rfl, hb1⟩
  go_wp2_with fail
  refine (refTable_any _).mono ?_
  rintro e w2 ⟨rfl, hb2⟩
  replace hb2 := below_step hb1 hb1.size hb2
  go_wp2_with (first
    | (refine wpList_binop rfl .eql 33 33 (.tmp 1) (.tmp 2) rfl (.agg tabCells) (.agg tabCells) rfl rfl (tab_guard _ _ _) (tab_eql _) ?_)
    | (go_at_call 11; refine (works_any _).mono ?_; rintro e w3 ⟨rfl, hb3⟩))
  go_ret
  exact ⟨rfl, below_step hb2 hb2.size hb3⟩
end Go.Proofs.Ytkgpagkhheglgaa
