/- Walks: a hash's text. -/
import Derived.Test.YtfconncnccgenaaShaT1
set_option linter.unusedVariables false
set_option linter.unusedSimpArgs false
namespace Go.Proofs.Ytfconncnccgenaa
open Go.RowKit
def signB (n : Nat) : UInt8 := [48, 49, 50, 51, 52, 53, 54, 55, 56, 57, 97, 98, 99, 100, 101, 102].getD n 0
def hex2 (c : UInt8) : List UInt8 := [signB (c.toNat / 16), signB (c.toNat % 16)]
def textOf (h : List UInt8) : List UInt8 := h.flatMap hex2
theorem textOf_len (h : List UInt8) : (textOf h).length = 2 * h.length := by
  induction h with
  | nil => rfl
  | cons c h ih => rw [textOf, List.flatMap_cons, List.length_append, ← textOf, ih]; simp [hex2]; omega
theorem textOf_snoc (h : List UInt8) (c : UInt8) : textOf (h ++ [c]) = textOf h ++ hex2 c := by simp [textOf]
def signs : ByteArray := { data := #[48, 49, 50, 51, 52, 53, 54, 55, 56, 57, 97, 98, 99, 100, 101, 102] }
theorem idxSign (n : Nat) (hn : n < 16) (w : World) : (Instr.index 9 (.string signs) (.int .u8 (n : Int))).run Try.prog w = .ok (.int .u8 ((signB n).toNat : Int)) w := by
  have h16 : n = 0 ∨ n = 1 ∨ n = 2 ∨ n = 3 ∨ n = 4 ∨ n = 5 ∨ n = 6 ∨ n = 7 ∨ n = 8 ∨ n = 9 ∨ n = 10 ∨ n = 11 ∨ n = 12 ∨ n = 13 ∨ n = 14 ∨ n = 15 := by omega
  rcases h16 with rfl | rfl | rfl | rfl | rfl | rfl | rfl | rfl | rfl | rfl | rfl | rfl | rfl | rfl | rfl | rfl
  all_goals (show _ = _; kernel_rfl)
theorem idxHash {cs : Array Value} {k : Nat} {v : Value} {W : World} (hk : k < 32) (h : cs[k]? = some v) : (Instr.index 26 (.agg cs) (.int .i64 (k : Int))).run Try.prog W = .ok v W := by
  have h1 : (k : Int) < 32 := by omega
  have h2 : (0 : Int) ≤ (k : Int) := by omega
  obtain ⟨i, hi0, hz, hs, hb⟩ := info_parts info5
  simp [Instr.index, run_underlying Try.underlying26, asIntOf, h1, h2, sizeOf, typeInfo, hi0, hs]
  rw [if_pos hk]
  have h' : cs[k]?.getD undef = v := by rw [h]; rfl
  simp [part, go_sem, sizeOf, typeInfo, hi0, hs, h, h']
theorem hC_get (h : List UInt8) (k : Nat) (hk : k < h.length) (hl : h.length ≤ 32) : (hC h)[k]? = some (.int .u8 ((h[k]).toNat : Int)) := by
  unfold hC
  rw [List.getElem?_toArray, List.getElem?_map, List.getElem?_append_left hk, List.getElem?_eq_getElem hk]
  rfl
theorem loadH {w : World} {g : Nat} {h : List UInt8} (hl : h.length = 32) (hr : Row w g 26 (hC h)) : (Instr.loadAt 26 (.pointer (some ⟨g, 0, none⟩))).run Try.prog w = .ok (.agg (hC h)) w := by
  have := run_loadAt_mid (P := Try.prog) w g 0 26 (hC h).toList _ (hr.range 0 _ fun j v hv => by rw [Nat.zero_add, ← Array.getElem?_toList]; exact hv) Try.underlying26 rfl (by rw [Array.length_toList, hC_size h (by omega)]; exact infoH)
  rwa [Array.toArray_toList] at this
theorem byteCells_snoc2 (l : List UInt8) (a b : UInt8) : Lib.byteCells l ++ [.int .u8 (a.toNat : Int)] ++ [.int .u8 (b.toNat : Int)] = Lib.byteCells (l ++ [a, b]) := by simp [Lib.byteCells]
set_option maxHeartbeats 2000000 in
set_option maxRecDepth 100000 in
theorem text_any (h : List UInt8) (hl : h.length = 32) (w : World) :
    Calls Try.prog 18 #[.agg (hC h)] w fun e w' => e = .returned (.string ⟨(textOf h).toArray⟩) ∧ Below w.heap.size w w' := by
  have HL := Lib.hid hl
  go_enter Try.func18, Try.ntmps18
  go_upto_region 2 with (first
    | (refine wpList_box rfl 26 (.tmp 0) rfl (.agg (hC h)) rfl (boxH h hl _) ?_))
  obtain ⟨B, hB⟩ : ∃ y, y = w.heap.size := ⟨_, rfl⟩
  rw [← hB]
  have hb0 : Lib.IsBuilder 64 5 B (B + 1) [] ((w.alloc (.cells (hC h) 26)).alloc (.cells #[.pointer none, .slice none 0 0] 64)) := by
    have := Lib.fresh_isBuilder 64 5 (w.alloc (.cells (hC h) 26))
    rw [World.size_alloc, ← hB] at this
    rcases this with h | h
    · exact .inl ⟨by omega, h.2.imp fun v hv => ⟨hv.1, Own.mono (l := []) hv.2.1 (by omega), hv.2.2⟩⟩
    · exact .inr ⟨by omega, h.2.imp fun v hv => ⟨hv.1, Own.mono (l := []) hv.2.1 (by omega), hv.2.2⟩⟩
  have hrow : Row ((w.alloc (.cells (hC h) 26)).alloc (.cells #[.pointer none, .slice none 0 0] 64)) B 26 (hC h) := by rw [hB]; exact (Row.new w _ _).alloc _
  have hbl : Below B w ((w.alloc (.cells (hC h) 26)).alloc (.cells #[.pointer none, .slice none 0 0] 64)) := by rw [hB]; exact below_new2 _ _ _
  have hld := loadH hl hrow
  have HBB := Lib.hid hB
  have hsz : B ≤ ((w.alloc (.cells (hC h) 26)).alloc (.cells #[.pointer none, .slice none 0 0] 64)).heap.size := Nat.le_of_lt hrow.lt
  clear hB hrow hl
  generalize (w.alloc (.cells (hC h) 26)).alloc (.cells #[.pointer none, .slice none 0 0] 64) = w0 at *
  go_wp2_with (first | (refine wpList_load rfl 26 (.tmp 1) rfl (.pointer (some ⟨B, 0, none⟩)) rfl hld ?_))
  go_loopw [5, 7] (fun _ t wr => ∃ k : Nat, k ≤ 32 ∧ t = .int .i64 k ∧ Lib.IsBuilder 64 5 B (B + 1) (Lib.byteCells (textOf (h.take k))) wr ∧ Below B w wr ∧ B ≤ wr.heap.size) (fun _ t _ => 32 - (intOf t).toNat)
  case atStart => exact ⟨0, by omega, rfl, hb0, hbl, hsz⟩
  case round =>
    obtain ⟨k, hk, rfl, hbk, hbw, hsw⟩ := hrel
    clear hb0 hbl hsz hld
    by_cases hlt : k < 32
    · have hkl : k < h.length := by rw [HL.out]; exact hlt
      obtain ⟨c, hc⟩ : ∃ c, h[k] = c := ⟨_, rfl⟩
      have hix := fun w' : World => idxHash (W := w') hlt (hC_get h k hkl (by rw [HL.out]; omega))
      rw [hc] at hix
      have hcl := c.toNat_lt
      have hs1 := fun w' : World => idxSign (c.toNat / 16) (by omega) w'
      have hs2 := fun w' : World => idxSign (c.toNat % 16) (by omega) w'
      rw [show ((c.toNat / 16 : Nat) : Int) = (c.toNat : Int) / 16 from by omega] at hs1
      rw [show ((c.toNat % 16 : Nat) : Int) = (c.toNat : Int) % 16 from by omega] at hs2
      unfold signs at hs1 hs2
      have hnx : textOf (h.take (k + 1)) = textOf (h.take k) ++ [signB (c.toNat / 16), signB (c.toNat % 16)] := by rw [List.take_succ_eq_append_getElem hkl, textOf_snoc, hc]; rfl
      have HNX := Lib.hid hnx
      have hln : (textOf (h.take k)).length ≤ 64 := by rw [textOf_len, List.length_take]; omega
      have hlc : (Lib.byteCells (textOf (h.take k))).length ≤ 64 := by rw [Lib.byteCells_length]; exact hln
      clear hnx hc hln
      generalize textOf (h.take k) = acc at *
      go_wp2_with fail
      refine (writeByte_any B (B + 1) _ _ _ hbk (by omega) hsw).mono ?_
      rintro e w1 ⟨rfl, hb1, hbw1⟩
      have hs1w := hbw1.size
      have hlc1 : (Lib.byteCells acc ++ [Value.int .u8 ((signB (c.toNat / 16)).toNat : Int)]).length ≤ 65 := by rw [List.length_append]; simp; omega
      clear hs1
      go_wp2_with fail
      refine (writeByte_any B (B + 1) _ _ _ (.inr hb1) (by omega) (by omega)).mono ?_
      rintro e w2 ⟨rfl, hb2, hbw2⟩
      have hs2w := hbw2.size
      rw [byteCells_snoc2, ← HNX.out] at hb2
      have hbB : Below B w w2 := (hbw.trans hbw1).trans hbw2
      clear hb1 hlc1 hs2
      go_wp2_with fail
      go_roundw
      case rel => exact ⟨k + 1, by omega, by go_num, .inr hb2, hbB, by omega⟩
      case measure => simp [intOf]; omega
    · obtain rfl : k = 32 := by omega
      rw [List.take_of_length_le (by rw [HL.out]; omega)] at hbk
      go_wp2_with (first | (go_at_call 37; refine (Try.Builder_String_any B (B + 1) (textOf h) _ hbk hsw).mono ?_; rintro e w9 ⟨rfl, hb9⟩))
      go_ret
      exact ⟨rfl, by rw [← HBB.out]; exact hbw.trans hb9⟩
end Go.Proofs.Ytfconncnccgenaa
