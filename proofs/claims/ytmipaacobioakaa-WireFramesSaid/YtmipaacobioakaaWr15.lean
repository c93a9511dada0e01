/- Walks: the document's numbers, texts, truths as bytes. -/
import Derived.Test.YtmipaacobioakaaWr14
set_option linter.unusedVariables false
set_option linter.unusedSimpArgs false
namespace Go.Proofs.Ytmipaacobioakaa
open Go.RowKit
set_option maxRecDepth 100000 in
set_option maxHeartbeats 1000000 in
theorem refHigh_any (n k : Nat) (w : World) (hk : k ≤ 8) (hn : n < 9223372036854775808) :
    Calls Try.prog 41 #[.int .i64 (n : Int), .int .i64 (k : Int)] w fun e w' => ∃ v', e = .returned v' ∧ Own 5 w' w.heap.size v' (Wr.be k n) ∧ Later w w' := by
  go_enter Try.func41, Try.ntmps41
  go_wp2_with fail
  go_loopw [5, 6] (fun u t wr => ∃ i : Nat, i ≤ k ∧ t = .int .i64 ((k : Int) - 1 - (i : Int)) ∧ Own 5 wr w.heap.size u ((Wr.be k n).take i) ∧ Later w wr) (fun u t _ => (intOf t + 1).toNat)
  case atStart => exact ⟨0, by omega, by simp, by simpa using Own.nil _ _ _, Later.refl _⟩
  case round =>
    obtain ⟨i, hi, rfl, hown, hL⟩ := hrel
    by_cases hlt : i < k
    · obtain ⟨j, hj⟩ : ∃ j : Nat, j = k - 1 - i := ⟨_, rfl⟩
      have hji : ((k : Int) - 1 - (i : Int)) = (j : Int) := by omega
      rw [hji]
      have hd : decide ((0 : Int) ≤ (j : Int)) = true := decide_eq_true (by omega)
      have hbyte : ((n : Int) / 2 ^ (8 * j)).tmod 256 % 256 = ((Wr.at_ n k i).toNat : Int) := by
        unfold Wr.at_
        rw [UInt8.toNat_ofNat', ← hj, Int.tmod_eq_emod_of_nonneg (Int.ediv_nonneg (by omega) (Int.le_of_lt (Int.pow_pos (by decide))))]
        simp
      have hj8 : j < 8 := by omega
      have HJ := Lib.hid hj
      clear hj hji
      have hll : ((Wr.be k n).take i).length ≤ 8 := by rw [List.length_take, Wr.be_len]; omega
      have hnx : (Wr.be k n).take (i + 1) = (Wr.be k n).take i ++ [Wr.at_ n k i] := Wr.be_take k n i hlt
      have HNX := Lib.hid hnx
      clear hnx
      go_wp2_with (first
        | (at_builtin; refine wpList_append_bytes rfl (.tmp 13) (.tmp 21) 22 rfl w.heap.size 5 Try.underlying22 byteInfo _ _ rfl (hown.alloc _) (some ⟨wr.heap.size, 0, none⟩) 1 1 [Wr.at_ n k i] rfl rfl (Rd.byte1 rfl) (by omega) (by simp only [World.size_alloc]; have := hL.size; omega) ?_; intro v' w' hown' hg' hat'; obtain ⟨A', n', c', rfl⟩ := hown'.shape)
        | fail)
      go_roundw
      case rel => exact ⟨i + 1, by omega, by have := HJ.out; go_num, by rw [HNX.out]; exact hown', (hL.alloc _).grown hg' (by have := hL.size; simp only [World.size_alloc]; omega) (fun q e => (hown.at_ q e).1)⟩
      case measure => have := HJ.out; simp [intOf]
    · obtain rfl : i = k := by omega
      have hd : decide ((0 : Int) ≤ (i : Int) - 1 - (i : Int)) = false := decide_eq_false (by omega)
      rw [List.take_of_length_le (by rw [Wr.be_len]; exact Nat.le_refl _)] at hown
      go_wp2_with fail
      go_ret
      exact ⟨_, rfl, hown, hL⟩
theorem own1 (w : World) (x : Value) (c : UInt8) (hx : x = byteV c) : Own 5 (w.alloc (.cells #[x] 5)) w.heap.size (.slice (some ⟨w.heap.size, 0, none⟩) 1 1) [c] := by
  subst hx
  exact ⟨rfl, .inr ⟨_, 1, _, rfl, Nat.le_refl _, heap_alloc_new w _, Nat.le_refl _, by decide, rfl, rfl⟩⟩
set_option maxRecDepth 100000 in
set_option maxHeartbeats 1000000 in
theorem refNumber_any (n : Nat) (w : World) (hn : n < 9223372036854775808) :
    Calls Try.prog 15 #[.int .i64 (n : Int)] w fun e w' => ∃ v', e = .returned v' ∧ Own 5 w' w.heap.size v' (Wr.bytes n) ∧ Later w w' := by
  by_cases h1 : n < 253
  · have hd : decide ((n : Int) < 253) = true := decide_eq_true (by omega)
    have hd' : decide (n < 253) = true := decide_eq_true (by omega)
    have hb : Wr.bytes n = [UInt8.ofNat n] := by rw [Wr.bytes, if_pos h1]
    rw [hb]
    have HB := Lib.hid hb
    clear hb
    go_enter Try.func15, Try.ntmps15
    go_wp2_with fail
    go_ret
    refine ⟨_, rfl, own1 w _ (UInt8.ofNat n) ?_, (Later.refl w).alloc _⟩
    rw [show byteV (UInt8.ofNat n) = .int .u8 (((UInt8.ofNat n).toNat : Nat) : Int) from rfl, UInt8.toNat_ofNat']
    first | rfl | (congr 1; omega)
  have hd : decide ((n : Int) < 253) = false := decide_eq_false (by omega)
  have hd' : decide (n < 253) = false := decide_eq_false (by omega)
  by_cases h2 : n < 65536
  · have hd2 : decide ((n : Int) < 65536) = true := decide_eq_true (by omega)
    have hd2' : decide (n < 65536) = true := decide_eq_true (by omega)
    have hb : Wr.bytes n = [253] ++ Wr.be 2 n := by rw [Wr.bytes, if_neg h1, if_pos h2]; rfl
    rw [hb]
    clear hb
    have hhi := fun W => refHigh_any n 2 W (by decide) hn
    go_enter Try.func15, Try.ntmps15
    go_wp2_with (first
      | (go_at_call 41; refine (hhi _).mono ?_; clear hhi; rintro e w1 ⟨v1, rfl, hown1, hL1⟩; obtain ⟨A1, c1, rfl, hc1, _, hrd1⟩ := hown1.slice; rw [Wr.be_len] at hc1 ⊢)
      | (at_builtin; refine wpList_append_bytes rfl (.tmp 12) (.tmp 14) 22 rfl w.heap.size 5 Try.underlying22 byteInfo _ _ rfl ((own1 w _ 253 rfl).later hL1) A1 2 c1 (Wr.be 2 n) rfl (Wr.be_len 2 n) hrd1 (by decide) (by have := hL1.size; simp only [World.size_alloc] at this; omega) ?_; intro v' w' hown' hg' hat'; obtain ⟨A', n', c', rfl⟩ := hown'.shape)
      | fail)
    go_ret
    exact ⟨_, rfl, hown', (((Later.refl w).alloc _).step hL1).grown hg' (by have := hL1.size; simp only [World.size_alloc] at this; omega) (fun q e => by cases e; exact Nat.le_refl _)⟩
  have hd2 : decide ((n : Int) < 65536) = false := decide_eq_false (by omega)
  have hd2' : decide (n < 65536) = false := decide_eq_false (by omega)
  by_cases h3 : n < 4294967296
  · have hd3 : decide ((n : Int) < 4294967296) = true := decide_eq_true (by omega)
    have hd3' : decide (n < 4294967296) = true := decide_eq_true (by omega)
    have hb : Wr.bytes n = [254] ++ Wr.be 4 n := by rw [Wr.bytes, if_neg h1, if_neg h2, if_pos h3]; rfl
    rw [hb]
    clear hb
    have hhi := fun W => refHigh_any n 4 W (by decide) hn
    go_enter Try.func15, Try.ntmps15
    go_wp2_with (first
      | (go_at_call 41; refine (hhi _).mono ?_; clear hhi; rintro e w1 ⟨v1, rfl, hown1, hL1⟩; obtain ⟨A1, c1, rfl, hc1, _, hrd1⟩ := hown1.slice; rw [Wr.be_len] at hc1 ⊢)
      | (at_builtin; refine wpList_append_bytes rfl (.tmp 19) (.tmp 21) 22 rfl w.heap.size 5 Try.underlying22 byteInfo _ _ rfl ((own1 w _ 254 rfl).later hL1) A1 4 c1 (Wr.be 4 n) rfl (Wr.be_len 4 n) hrd1 (by decide) (by have := hL1.size; simp only [World.size_alloc] at this; omega) ?_; intro v' w' hown' hg' hat'; obtain ⟨A', n', c', rfl⟩ := hown'.shape)
      | fail)
    go_ret
    exact ⟨_, rfl, hown', (((Later.refl w).alloc _).step hL1).grown hg' (by have := hL1.size; simp only [World.size_alloc] at this; omega) (fun q e => by cases e; exact Nat.le_refl _)⟩
  have hd3 : decide ((n : Int) < 4294967296) = false := decide_eq_false (by omega)
  have hd3' : decide (n < 4294967296) = false := decide_eq_false (by omega)
  have hb : Wr.bytes n = [255] ++ Wr.be 8 n := by rw [Wr.bytes, if_neg h1, if_neg h2, if_neg h3]; rfl
  rw [hb]
  clear hb
  have hhi := fun W => refHigh_any n 8 W (by decide) hn
  go_enter Try.func15, Try.ntmps15
  go_wp2_with (first
    | (go_at_call 41; refine (hhi _).mono ?_; clear hhi; rintro e w1 ⟨v1, rfl, hown1, hL1⟩; obtain ⟨A1, c1, rfl, hc1, _, hrd1⟩ := hown1.slice; rw [Wr.be_len] at hc1 ⊢)
    | (at_builtin; refine wpList_append_bytes rfl (.tmp 23) (.tmp 25) 22 rfl w.heap.size 5 Try.underlying22 byteInfo _ _ rfl ((own1 w _ 255 rfl).later hL1) A1 8 c1 (Wr.be 8 n) rfl (Wr.be_len 8 n) hrd1 (by decide) (by have := hL1.size; simp only [World.size_alloc] at this; omega) ?_; intro v' w' hown' hg' hat'; obtain ⟨A', n', c', rfl⟩ := hown'.shape)
    | fail)
  go_ret
  exact ⟨_, rfl, hown', (((Later.refl w).alloc _).step hL1).grown hg' (by have := hL1.size; simp only [World.size_alloc] at this; omega) (fun q e => by cases e; exact Nat.le_refl _)⟩
end Go.Proofs.Ytmipaacobioakaa
