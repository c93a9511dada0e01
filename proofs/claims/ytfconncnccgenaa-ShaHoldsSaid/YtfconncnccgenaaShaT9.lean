/- Walks: starts and works. -/
import Derived.Test.YtfconncnccgenaaShaT8
set_option linter.unusedVariables false
set_option linter.unusedSimpArgs false
namespace Go.Proofs.Ytfconncnccgenaa
open Go.RowKit
theorem loop_data (bs : ByteArray) : ∀ (n i : Nat) (r : List UInt8), bs.size - i = n → ByteArray.toList.loop bs i r = r.reverse ++ bs.data.toList.drop i := by
  intro n
  induction n with
  | zero =>
    intro i r h
    rw [ByteArray.toList.loop, if_neg (by omega), List.drop_eq_nil_of_le (by simp; omega)]
    simp
  | succ n ih =>
    intro i r h
    have hi : i < bs.data.toList.length := by simp; omega
    rw [ByteArray.toList.loop, if_pos (by omega), ih (i + 1) _ (by omega), List.reverse_cons, List.append_assoc, List.drop_eq_getElem_cons hi]
    congr 1
    have hi2 : i < bs.data.size := by simpa using hi
    simp only [ByteArray.get!, Array.getElem_toList, List.nil_append, List.cons_append, List.reverse_nil, List.cons.injEq, and_true]
    exact getElem!_pos bs.data i hi2
theorem toList_data (bs : ByteArray) : bs.toList = bs.data.toList := by
  unfold ByteArray.toList
  rw [loop_data bs bs.size 0 [] (by omega)]
  simp
set_option maxRecDepth 100000 in
set_option maxHeartbeats 1000000 in
theorem starts_yes (h : List UInt8) (hl : h.length = 32) (q : ByteArray) (w : World) (hq : (textOf h).take 8 = q.data.toList) :
    Calls Try.prog 33 #[.agg (hC h), .string q] w fun e w' => e = .returned (.bool true) ∧ Below w.heap.size w w' := by
  have hrow := Row.new w 26 (hC h)
  have hld := loadH hl hrow
  have hb0 := below_new w (.cells (hC h) 26)
  have hcall := text_any h hl (w.alloc (.cells (hC h) 26))
  have htl : (textOf h).length = 64 := by rw [textOf_len, hl]
  obtain ⟨s, hs⟩ : ∃ s, textOf h = s := ⟨_, rfl⟩
  rw [hs] at hcall htl hq
  have hfin : ((ByteArray.extract { data := s.toArray } 0 8).toList == q.toList) = true := by
    rw [toList_data, toList_data, ← hq]
    simp
  have HF := Lib.hid hfin
  clear hs hfin hq
  go_enter Try.func33, Try.ntmps33
  go_wp2_with (first
    | (refine wpList_box rfl 26 (.tmp 0) rfl (.agg (hC h)) rfl (boxH h hl _) ?_)
    | (refine wpList_load rfl 26 (.tmp 2) rfl (.pointer (some ⟨w.heap.size, 0, none⟩)) rfl hld ?_)
    | (go_at_call 18; refine hcall.mono ?_; rintro e w1 ⟨rfl, hb1⟩)
    | fail)
  go_ret
  rw [HF.out]
  exact ⟨rfl, hb0.trans (hb1.mono hb0.size)⟩
/- the values that works asks for -/
def abc8 : List UInt8 := (textOf (Sha.sum [97, 98, 99])).take 8
theorem k_abc : (textOf (Sha.sum [97, 98, 99])).take 8 = [98, 97, 55, 56, 49, 54, 98, 102] := by decide +kernel
theorem k_nil : (textOf (Sha.sum [])).take 8 = [101, 51, 98, 48, 99, 52, 52, 50] := by decide +kernel
theorem k_twice : (textOf (Sha.sum (Sha.sum []))).take 8 = [53, 100, 102, 54, 101, 48, 101, 50] := by decide +kernel
theorem k_p64 : parseB (List.replicate 64 48) = Sha.zeros 32 ∧ parseE (List.replicate 64 48) = 0 := by decide +kernel
theorem k_p63 : parseB (List.replicate 63 48) = [] ∧ parseE (List.replicate 63 48) = 110 := by decide +kernel
theorem k_pA : parseB (65 :: List.replicate 63 48) = [] ∧ parseE (65 :: List.replicate 63 48) = 110 := by decide +kernel
theorem hC_zeros : hC (Sha.zeros 32) = hC [] := by
  unfold hC
  simp [Sha.zeros]
end Go.Proofs.Ytfconncnccgenaa
