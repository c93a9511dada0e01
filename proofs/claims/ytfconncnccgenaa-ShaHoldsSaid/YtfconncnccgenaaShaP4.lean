/- Walks: what comes behind bytes, and the hash of bytes, by the document. -/
import Derived.Test.YtfconncnccgenaaShaP3
set_option linter.unusedVariables false
set_option linter.unusedSimpArgs false
namespace Go.Proofs.Ytfconncnccgenaa
open Go.RowKit
theorem own_void (w : World) (U : TypeId) (base : Nat) (hb : base ≤ w.heap.size) : Own U (w.alloc (.cells #[] U)) base (.slice (some ⟨w.heap.size, 0, none⟩) 0 0) [] :=
  ⟨rfl, .inr ⟨_, 0, #[], rfl, hb, heap_alloc_new w _, Nat.le_refl _, Nat.zero_le _, rfl, rfl⟩⟩
theorem told_upto (n many k : Nat) (h : k < many) : (Sha.told n many).take (k + 1) = (Sha.told n many).take k ++ [UInt8.ofNat (n / 256 ^ (many - 1 - k))] := by
  rw [List.take_succ_eq_append_getElem (by rw [Sha.told_len]; exact h)]
  congr 2
  simp only [Sha.told, List.getElem_map, List.getElem_range]
theorem shift_val (n k : Nat) (h : k < 8) : ((n : Int) * 8 / 2 ^ (56 - 8 * k)).tmod 256 % 256 = ((UInt8.ofNat (n * 8 / 256 ^ (8 - 1 - k))).toNat : Int) := by
  have e : (2 : Int) ^ (56 - 8 * k) = ((256 ^ (8 - 1 - k) : Nat) : Int) := by
    rw [show 56 - 8 * k = 8 * (8 - 1 - k) from by omega, Int.pow_mul, Int.natCast_pow]
    rfl
  rw [e, UInt8.toNat_ofNat']
  generalize 256 ^ (8 - 1 - k) = p
  have e2 : (n : Int) * 8 / (p : Int) = ((n * 8 / p : Nat) : Int) := by rw [Int.natCast_ediv, Int.natCast_mul]; rfl
  rw [e2]
  generalize n * 8 / p = q
  rw [Int.tmod_eq_emod_of_nonneg (by omega)]
  omega
set_option maxHeartbeats 1000000 in
set_option maxRecDepth 100000 in
theorem refPadded_any (A : Option Addr) (n ca : Nat) (l : List UInt8) (w : World) (hn : l.length = n) (hm : n ≤ 100000000) (hr : Rd w A l) :
    Calls Try.prog 28 #[.slice A n ca] w fun e w' => ∃ v, e = .returned v ∧ Own 5 w' w.heap.size v (Sha.padded l) ∧ Below w.heap.size w w' := by
  obtain ⟨z, hz⟩ : ∃ z, Sha.noughts n = z := ⟨_, rfl⟩
  have hzi : (128 - ((n : Int) + 9)) % 64 = (z : Int) := by rw [← hz]; unfold Sha.noughts; omega
  have hz63 : z ≤ 63 := by rw [← hz]; unfold Sha.noughts; omega
  have hpad : Sha.padded l = l ++ [128] ++ List.replicate z 0 ++ Sha.told (n * 8) 8 := by
    unfold Sha.padded
    rw [hn, hz]
    simp [Sha.zeros]
  have HN := Lib.hid hn
  have HP := Lib.hid hpad
  have HZI := Lib.hid hzi
  clear hz hpad hn hzi
  have hp1 : 0 ≤ 128 - ((n : Int) + 9) % 64 := by omega
  go_enter Try.func28, Try.ntmps28
  go_wp2_with (first
    | (at_builtin; refine wpList_append_bytes rfl (.tmp 12) (.tmp 13) 23 rfl w.heap.size 5 Try.underlying23 (info5 : ByteInfo Try.prog 5) _ [] rfl (own_void w _ _ (Nat.le_refl _)) A n ca l rfl HN.out (hr.alloc _) (by simp; omega) (by simp) ?_; intro v1 w1 hown1 hg1 hat1)
    | (at_builtin; refine wpList_append_bytes rfl (.tmp 14) (.tmp 15) 23 rfl w.heap.size 5 Try.underlying23 (info5 : ByteInfo Try.prog 5) _ l rfl (Own.alloc hown1 _) (some ⟨w1.heap.size, 0, none⟩) 1 1 [128] rfl rfl (Rd.byte1 rfl) (by have := HN.out; omega) (by have := hg1.size; simp at this ⊢; omega) ?_; intro v2 w2 hown2 hg2 hat2; have hb1 : Below w.heap.size w w1 := (below_new w _).grown hg1 (by simp) (fun k hk => Nat.le_of_eq (Option.some.inj hk)); have hb2 : Below w.heap.size w w2 := (hb1.alloc hb1.size _).grown hg2 (by have := hb1.size; simp; omega) (fun k hk => (hown1.at_ k hk).1); obtain ⟨g2, c2, rfl, hown2', hbg2, hgl2, hnc2, hcm2⟩ := Own.formN hown2 (n := n + 1) (by rw [List.length_append, HN.out]; rfl) (by omega))
    | (at_builtin; refine wpList_append_zeros rfl (.tmp 17) (.tmp 18) 23 3 rfl w.heap.size g2 c2 5 .i64 Try.underlying23 Try.underlying3 (info5 : ByteInfo Try.prog 5) (l ++ [128]) (n + 1) (by rw [List.length_append, HN.out]; rfl) rfl hown2' z (congrArg (Value.int .i64) HZI.out) (by omega) (by have := hb2.size; omega) ?_; intro v3 w3 hown3 hg3 hat3; have hb3 : Below w.heap.size w w3 := hb2.grown hg3 hb2.size (fun k hk => by cases hk; exact hbg2); clear hown2' hown2 hown1 hg1 hg2 hg3 hat1 hat2 hb1 hb2)
    | (fail))
  go_loopw [4, 5] (fun v t wr => ∃ k : Nat, k ≤ 8 ∧ t = .int .i64 k ∧ Own 5 wr w.heap.size v (l ++ [128] ++ List.replicate z 0 ++ (Sha.told (n * 8) 8).take k) ∧ Below w.heap.size w wr) (fun _ t _ => 8 - (intOf t).toNat)
  case atStart => exact ⟨0, by omega, rfl, by rw [List.take_zero, List.append_nil]; exact hown3, hb3⟩
  case round =>
    obtain ⟨k, hk, rfl, hown, hb⟩ := hrel
    clear hown3 hb3 hat3
    by_cases hlt : k < 8
    · have hnx := told_upto (n * 8) 8 k hlt
      have hln : (l ++ [128] ++ List.replicate z (0 : UInt8) ++ (Sha.told (n * 8) 8).take k).length ≤ 100000100 := by
        simp only [List.length_append, List.length_cons, List.length_nil, List.length_replicate, List.length_take, Sha.told_len, HN.out]
        omega
      obtain ⟨acc, hacc⟩ : ∃ y, l ++ [128] ++ List.replicate z (0 : UInt8) ++ (Sha.told (n * 8) 8).take k = y := ⟨_, rfl⟩
      have hnx2 : l ++ [128] ++ List.replicate z (0 : UInt8) ++ (Sha.told (n * 8) 8).take (k + 1) = acc ++ [UInt8.ofNat (n * 8 / 256 ^ (8 - 1 - k))] := by rw [hnx, ← hacc, List.append_assoc _ (List.take k _)]
      rw [hacc] at hown hln
      have HX := Lib.hid hnx2
      clear hnx hacc hnx2
      have e0 : 0 ≤ 56 - 8 * (k : Int) := by omega
      go_wp2_with (first
        | (at_builtin; refine wpList_append_bytes rfl (.tmp 24) (.tmp 36) 23 rfl w.heap.size 5 Try.underlying23 (info5 : ByteInfo Try.prog 5) _ acc rfl (hown.alloc _) (some ⟨wr.heap.size, 0, none⟩) 1 1 [UInt8.ofNat (n * 8 / 256 ^ (8 - 1 - k))] rfl rfl (Rd.byte1 ?hz) (by omega) (by have := hb.size; simp; omega) ?_; rotate_left; intro v2 w2 hown2 hg2 hat2)
        | fail)
      case hz => exact shift_val n k hlt
      go_roundw
      case rel => exact ⟨k + 1, by omega, by go_num, by rw [HX.out]; exact hown2, (hb.alloc hb.size _).grown hg2 (by have := hb.size; simp; omega) (fun j hj => (hown.at_ j hj).1)⟩
      case measure => simp [intOf]; omega
    · obtain rfl : k = 8 := by omega
      rw [List.take_of_length_le (by rw [Sha.told_len]; omega), ← HP.out] at hown
      go_wp2
      go_ret
      exact ⟨_, rfl, hown, hb⟩
end Go.Proofs.Ytfconncnccgenaa
