/- Walks: tags under way. -/
import Derived.Test.YtbjclmfhmdalkaaHm1
set_option linter.unusedVariables false
set_option linter.unusedSimpArgs false
namespace Go.Proofs.Ytbjclmfhmdalkaa
open Go.RowKit
theorem xor8 (a c : UInt8) (W : World) : (binOp .xor 5 (.int .u8 (a.toNat : Int)) (.int .u8 (c.toNat : Int))).run Try.prog W = .ok (.int .u8 ((a ^^^ c).toNat : Int)) W := by
  go_simp
  rw [u8_xor_nat _ _ a.toNat_lt c.toNat_lt]
theorem idxBl {b j : Nat} {W : World} (h : j < 64) : (Instr.indexAt 74 (.pointer (some ⟨b, 0, none⟩)) (.int .i64 (j : Int))).run Try.prog W = .ok (.pointer (some ⟨b, j, none⟩)) W := by
  have h1 : (j : Int) < 64 := by omega
  go_simp
theorem store8 {b o : Nat} {x : UInt8} {v : Value} {W : World} (hc : W.cell? ⟨b, o, none⟩ = some v) (hf : W.frozen? ⟨b, o, none⟩ = false) : (Instr.storeAt 5 (.pointer (some ⟨b, o, none⟩)) (.int .u8 (x.toNat : Int))).run Try.prog W = .ok () (W.setCell ⟨b, o, none⟩ (byteV x)) := by
  go_simp
/-- The first k bytes turned, the others not yet. -/
def tk (c : UInt8) (b : List UInt8) (k : Nat) : List UInt8 := Hm.turn c (b.take k) ++ b.drop k
theorem tk_len (c : UInt8) (b : List UInt8) (k : Nat) : (tk c b k).length = b.length := by simp [tk, Hm.turn]; omega
theorem tk_get (c : UInt8) (b : List UInt8) (k : Nat) (h : k < b.length) : (aB (tk c b k))[k]? = some (.int .u8 (b[k].toNat : Int)) := by
  have h1 : (tk c b k)[k]? = some b[k] := by
    rw [tk, List.getElem?_append_right (by simp [Hm.turn]; omega)]
    have e : k - (Hm.turn c (b.take k)).length = 0 := by simp [Hm.turn]; omega
    rw [e, List.getElem?_drop, Nat.add_zero, List.getElem?_eq_getElem h]
  rw [aB, List.getElem?_toArray, List.getElem?_map, h1]
  rfl
theorem tk_set (c : UInt8) (b : List UInt8) (k : Nat) (h : k < b.length) : (aB (tk c b k)).setIfInBounds k (byteV (b[k] ^^^ c)) = aB (tk c b (k + 1)) := by
  have e1 : tk c b k = Hm.turn c (b.take k) ++ (b[k] :: b.drop (k + 1)) := by rw [tk, ← List.drop_eq_getElem_cons h]
  have e2 : tk c b (k + 1) = Hm.turn c (b.take k) ++ ((b[k] ^^^ c) :: b.drop (k + 1)) := by
    rw [tk, List.take_succ_eq_append_getElem h, Hm.turn, Hm.turn, List.map_append, List.append_assoc]
    rfl
  have hl : ((Hm.turn c (b.take k)).map byteV).length = k := by simp [Hm.turn]; omega
  rw [e1, e2, aB, aB, List.map_append, List.map_append, List.map_cons, List.map_cons, List.setIfInBounds_toArray, List.set_append_right _ _ (by omega), hl, Nat.sub_self]
  rfl
theorem tk_zero (c : UInt8) (b : List UInt8) : tk c b 0 = b := by simp [tk, Hm.turn]
theorem tk_all (c : UInt8) (b : List UInt8) (n : Nat) (h : b.length ≤ n) : tk c b n = Hm.turn c b := by
  rw [tk, List.take_of_length_le h, List.drop_eq_nil_of_le h, List.append_nil]
set_option maxRecDepth 100000 in
set_option maxHeartbeats 1000000 in
theorem by1_any (b : List UInt8) (c : UInt8) (gc : Nat) (w : World) (hb : b.length = 64) (hgc : w.cell? ⟨gc, 0, none⟩ = some (.int .u8 (c.toNat : Int))) :
    Calls Try.prog 45 #[.agg (aB b), .pointer (some ⟨gc, 0, none⟩)] w fun e w' => ∃ g, e = .returned (.slice (some ⟨g, 0, none⟩) 64 64) ∧ Rd w' (some ⟨g, 0, none⟩) (Hm.turn c b) ∧ w.heap.size ≤ g ∧ Later w w' := by
  have hrow := Row.new w 74 (aB b)
  have hL0 := (Later.refl w).alloc (.cells (aB b) 74)
  have hz := tk_zero c b
  have HZ := Lib.hid hz
  have HB := Lib.hid hb
  have hbl := block_lt_of_cell hgc
  clear hz hb
  go_enter Try.func45, Try.ntmps45
  go_wp2_with (first
    | (refine wpList_box rfl 74 (.tmp 0) rfl (.agg (aB b)) rfl (boxK HB.out _) ?_)
    | fail)
  obtain ⟨g, hg⟩ : ∃ q, q = w.heap.size := ⟨_, rfl⟩
  rw [← hg] at hrow ⊢
  have hgle : w.heap.size ≤ g := by omega
  have HG := Lib.hid hg
  clear hg
  generalize hw1 : w.alloc (.cells (aB b) 74) = w1 at *
  clear hw1
  go_loopw [5] (fun t wr => ∃ k : Nat, k ≤ 64 ∧ t = .int .i64 k ∧ Row wr g 74 (aB (tk c b k)) ∧ Later w wr) (fun t _ => 64 - (intOf t).toNat)
  case atStart => exact ⟨0, by omega, rfl, by rw [HZ.out]; exact hrow, hL0⟩
  case round =>
    obtain ⟨k, hk, rfl, hr, hL⟩ := hrel
    clear hrow hL0
    by_cases hlt : k < 64
    · have hkb : k < b.length := by rw [HB.out]; exact hlt
      have hck := (hr.cell k).trans (tk_get c b k hkb)
      have hset := tk_set c b k hkb
      have hgc' := hL.cell hgc
      obtain ⟨x, hx⟩ : ∃ x, b[k] = x := ⟨_, rfl⟩
      rw [hx] at hck hset
      have HSET := Lib.hid hset
      clear hset hx
      go_upto_region 4 with fail
      refine (wpIn_wide (n := 0)).1 ?_
      refine wpIn_region_last wide_wide [Pr.eq (.int .i64 (k : Int)), Pr.eq (.pointer (some ⟨g, k, none⟩)), Pr.eq (.int .u8 (x.toNat : Int)), Pr.eq (.int .u8 (c.toNat : Int)), Pr.eq (.int .u8 ((x ^^^ c).toNat : Int)), Pr.eq (.pointer (some ⟨g, k, none⟩))] (by kernel_rfl) (by kernel_rfl) (by kernel_rfl) (by kernel_rfl) (by kernel_rfl) (by kernel_rfl) rfl ⟨?_, ?_, ?_, ?_, ?_, ?_, trivial⟩ ?_
      · exact fun ac W hL he => stepOk_want rfl (op_move rfl (he.keep (.tmp 4) (by kernel_rfl)))
      · exact fun ac W hL he => stepOk_want rfl (op_idx rfl (he.keep (.tmp 2) (by kernel_rfl)) (he.get 0 8 (by kernel_rfl) rfl) (idxBl hlt) rfl)
      · exact fun ac W hL he => stepOk_want rfl (op_load rfl (he.get 1 9 (by kernel_rfl) rfl) (load8 (hL.cell hck)) rfl)
      · exact fun ac W hL he => stepOk_want rfl (op_load rfl (he.keep (.tmp 1) (by kernel_rfl)) (load8 (hL.cell hgc')) rfl)
      · exact fun ac W hL he => stepOk_want rfl (op_binOp rfl (he.get 2 10 (by kernel_rfl) rfl) (he.get 3 11 (by kernel_rfl) rfl) eqg_xor (xor8 x c W) rfl)
      · exact fun ac W hL he => stepOk_want rfl (op_idx rfl (he.keep (.tmp 2) (by kernel_rfl)) (he.get 0 8 (by kernel_rfl) rfl) (idxBl hlt) rfl)
      · intro xs W hL2 hx hk2 hg2
        have e1 := hg2 5 13 (by decide) (by kernel_rfl)
        have e2 := hg2 4 12 (by decide) (by kernel_rfl)
        have v5 : xs 5 = .pointer (some ⟨g, k, none⟩) := hx 5 (by decide)
        have v4 : xs 4 = .int .u8 ((x ^^^ c).toNat : Int) := hx 4 (by decide)
        rw [v5] at e1
        rw [v4] at e2
        have hr2 := hr.later hL2
        refine last_store rfl rfl e1 e2 (store8 (hL2.cell hck) (hr2.frozen k)) ?_
        have hr3 := hr2.set k (byteV (x ^^^ c))
        rw [HSET.out] at hr3
        have hL3 : Later w (W.setCell ⟨g, k, none⟩ (byteV (x ^^^ c))) := Below.setCell (hL.step hL2) (p := ⟨g, k, none⟩) hgle _
        clear hx hk2 hg2 e1 e2 v4 v5 hr2 hck hgc'
        simp only [initL, lastL, putL, Nat.reduceAdd, Act.put, List.setIfInBounds_toArray, List.set_cons_succ, List.set_cons_zero]
        go_wp2_with fail
        go_roundw
        case rel => exact ⟨k + 1, by omega, by go_num, hr3, hL3⟩
        case measure => simp [intOf]; omega
    · obtain rfl : k = 64 := by omega
      rw [tk_all c b 64 (by rw [HB.out]; omega)] at hr
      go_wp2_with (first
        | (refine wpList_slice0 rfl 74 (.tmp 2) rfl (.pointer (some ⟨g, 0, none⟩)) rfl (sliceK _) ?_)
        | fail)
      go_ret
      exact ⟨g, rfl, rd_row hr, hgle, hL⟩
end Go.Proofs.Ytbjclmfhmdalkaa
