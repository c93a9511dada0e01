/- Walks: a frame laid (wire.Frame); the plain law: a frame is split into what it frames. -/
import Derived.Test.YtmipaacobioakaaWr24
set_option linter.unusedVariables false
set_option linter.unusedSimpArgs false
namespace Go.Proofs.Ytmipaacobioakaa
open Go.RowKit
namespace Wr
theorem val_be_take (k n : Nat) (hn : n < 2 ^ (8 * k)) : ∀ i, i ≤ k → val ((be k n).take i) = n / 2 ^ (8 * (k - i))
  | 0, _ => by rw [List.take_zero]; simp [val]; exact (Nat.div_eq_of_lt hn).symm
  | i + 1, hi => by
    rw [be_take k n i (by omega), val_snoc, val_be_take k n hn i (by omega)]
    unfold at_
    rw [UInt8.toNat_ofNat', show k - 1 - i = k - (i + 1) by omega]
    have e : 2 ^ (8 * (k - i)) = 2 ^ (8 * (k - (i + 1))) * 256 := by
      rw [show 8 * (k - i) = 8 * (k - (i + 1)) + 8 by omega, Nat.pow_add]
    rw [e, ← Nat.div_div_eq_div_mul]
    generalize n / 2 ^ (8 * (k - (i + 1))) = y
    omega
theorem val_be (k n : Nat) (hn : n < 2 ^ (8 * k)) : val (be k n) = n := by
  have h := val_be_take k n hn k (Nat.le_refl _)
  rw [List.take_of_length_le (by rw [be_len]; exact Nat.le_refl _)] at h
  simpa using h
/-- A number's bytes are read back. -/
theorem first_bytes (m : Nat) (s : List UInt8) (hm : m ≤ 4611686018427387904) : first (bytes m ++ s) = (m, ((bytes m).length : Int)) := by
  have hlen := bytes_len m
  by_cases h1 : m < 253
  · have hb : bytes m = [UInt8.ofNat m] := by rw [bytes, if_pos h1]
    have hmany : many (UInt8.ofNat m) = 0 := by
      have h : (UInt8.ofNat m).toNat = m := by rw [UInt8.toNat_ofNat']; omega
      unfold many
      rw [if_neg (by intro e; rw [e] at h; simp at h; omega), if_neg (by intro e; rw [e] at h; simp at h; omega), if_neg (by intro e; rw [e] at h; simp at h; omega)]
    rw [hb, List.singleton_append, first, if_pos hmany]
    simp
    omega
  · have key : ∀ (c : UInt8) (k : Nat), many c = k → k ≠ 0 → bytes m = c :: be k m → m < 2 ^ (8 * k) → first (bytes m ++ s) = (m, ((bytes m).length : Int)) := fun c k hk h0 hb hlt => by
      have hl : (bytes m).length = 1 + k := by rw [hb]; simp [be_len]; omega
      have ht : (be k m ++ s).take k = be k m := by rw [List.take_append_of_le_length (by rw [be_len]; exact Nat.le_refl _), List.take_of_length_le (by rw [be_len]; exact Nat.le_refl _)]
      have hf : first ((c :: be k m) ++ s) = (m, 1 + (k : Int)) := by
        rw [List.cons_append, first, hk, if_neg h0, if_neg (by rw [List.length_append, be_len]; omega), ht, val_be k m hlt, hl, if_neg (by simp; omega)]
      rw [hb, hf]
      simp [be_len]
      omega
    by_cases h2 : m < 65536
    · exact key 253 2 (by decide) (by decide) (by rw [bytes, if_neg h1, if_pos h2]) (by simpa using h2)
    · by_cases h3 : m < 4294967296
      · exact key 254 4 (by decide) (by decide) (by rw [bytes, if_neg h1, if_neg h2, if_pos h3]) (by simpa using h3)
      · exact key 255 8 (by decide) (by decide) (by rw [bytes, if_neg h1, if_neg h2, if_neg h3]) (by omega)
/-- A frame's bytes. -/
def frame (l : List UInt8) : List UInt8 := bytes (l.length + 4) ++ (l ++ low4 (Crc.sum l))
theorem open_seal (l : List UInt8) : openOk (l ++ low4 (Crc.sum l)) = true ∧ openB (l ++ low4 (Crc.sum l)) = l := by
  have h4 : (low4 (Crc.sum l)).length = 4 := rfl
  have hl : (l ++ low4 (Crc.sum l)).length - 4 = l.length := by rw [List.length_append, h4]; omega
  have ho : openOk (l ++ low4 (Crc.sum l)) = true := by
    unfold openOk
    rw [hl, List.take_left' rfl, List.drop_left' rfl, eqB_true rfl]
    simp [h4]
  exact ⟨ho, by unfold openB; rw [ho, hl, List.take_left' rfl]; rfl⟩
theorem split_frame (l s : List UInt8) (hl : l.length ≤ 8192) : splitR (frame l ++ s) = (l, ((frame l).length : Int), 0) := by
  have hf : first (frame l ++ s) = (l.length + 4, ((bytes (l.length + 4)).length : Int)) := by
    unfold frame
    rw [List.append_assoc]
    exact first_bytes _ _ (by omega)
  have hp : piece (frame l ++ s) = l ++ low4 (Crc.sum l) := by
    unfold piece
    rw [hf]
    simp only [Int.toNat_natCast]
    unfold frame
    rw [List.append_assoc, List.drop_left' rfl, List.take_left' (by rw [List.length_append]; rfl)]
  have hb0 : 0 < (bytes (l.length + 4)).length := by rw [bytes_len]; split <;> (try split) <;> (try split) <;> omega
  have hfl : (frame l ++ s).length = (bytes (l.length + 4)).length + (l.length + 4) + s.length := by unfold frame; simp [List.length_append, low4]; omega
  have hfl2 : (frame l).length = (bytes (l.length + 4)).length + (l.length + 4) := by unfold frame; simp [List.length_append, low4]
  unfold splitR
  rw [hf, hp, (open_seal l).1, (open_seal l).2, hfl]
  simp only
  rw [if_neg (by omega), if_neg (by omega), if_neg (by omega), if_pos trivial, hfl2]
  simp
end Wr
theorem low4_len (x : BitVec 32) : (low4 x).length = 4 := rfl
set_option maxRecDepth 100000 in
set_option maxHeartbeats 1000000 in
theorem frame_any (A : Option Addr) (n c : Nat) (l : List UInt8) (w : World) (hn : l.length = n) (hm : n ≤ 1099511627776) (hr : Rd w A l) :
    Calls Try.prog 29 #[.slice A n c] w fun e w' => ∃ v, e = .returned (.tuple #[v, .int .i64 (if n ≤ 8192 then 0 else 3)]) ∧ Own 5 w' w.heap.size v (if n ≤ 8192 then Wr.frame l else []) ∧ Below w.heap.size w w' := by
  by_cases hbig : n ≤ 8192
  · have hd : decide ((8192 : Int) < (n : Int)) = false := decide_eq_false (by omega)
    have hd' : decide (8192 < n) = false := decide_eq_false (by omega)
    rw [if_pos hbig, if_pos hbig]
    have hP : ∀ l' ∈ [l], l'.length ≤ 1099511627776 := by simp; omega
    have hF : [l].flatten.length ≤ 1099511627776 := by simp; omega
    have hseal := seal_any (some ⟨w.heap.size, 0, none⟩) 1 1 [l] (w.alloc (.cells #[.slice A n c] 22)) rfl (by omega) hF hP (Rds.one_at _ rfl hr hn)
    have hL1 := (Later.refl w).alloc (.cells #[.slice A n c] 22)
    have HL1 := Lib.hid hL1
    have hl1 : ([l].flatten ++ low4 (Crc.sum [l].flatten)).length = n + 4 := by rw [List.length_append, low4_len]; simp [hn]
    have hfr : Wr.frame l = [] ++ Wr.nb ((n + 4 : Nat) : Int) ++ ([l].flatten ++ low4 (Crc.sum [l].flatten)) := by rw [Wr.nb_nat]; simp [Wr.frame, hn]
    have HFR := Lib.hid hfr
    clear hP hF hL1 hn hfr
    generalize [l].flatten ++ low4 (Crc.sum [l].flatten) = S at *
    go_enter Try.func29, Try.ntmps29
    go_upto_region 4 with (first
      | (go_at_call 59; refine hseal.mono ?_; clear hseal; rintro e w1 ⟨v, rfl, hown, hb⟩; obtain ⟨A1, c1, rfl, hc1, hcm1, hrd1⟩ := hown.slice)
      | fail)
    rw [hl1] at hc1
    have hnum := number_any (.slice none 0 0) [] ((n + 4 : Nat) : Int) w.heap.size w1 (by omega) (by simp) (by have := HL1.out.size; have := hb.size; omega) (Own.nil _ _ _)
    have hL2 := Later.call HL1.out hb
    have hnl := Wr.nb_le ((n + 4 : Nat) : Int)
    clear hb hown
    generalize Wr.nb ((n + 4 : Nat) : Int) = N at *
    go_wp2_with (first
      | (go_at_call 39; refine hnum.mono ?_; clear hnum; rintro e w2 ⟨v2, rfl, hown2, hgr2⟩; have hrd2 := hrd1.grown hgr2.1 (fun b o e hne => by intro h; cases h); have hL3 := hL2.grown hgr2.1 hL2.size (fun j e => by cases e))
      | (at_builtin; refine wpList_append_bytes rfl (.tmp 13) (.tmp 14) 22 rfl w.heap.size 5 Try.underlying22 byteInfo _ _ rfl hown2 A1 (n + 4) c1 S rfl hl1 hrd2 (by simp; omega) hL3.size ?_; intro v3 w3 hown3 hg3 hat3; obtain ⟨A3, n3, c3, rfl⟩ := hown3.shape)
      | fail)
    go_ret2
    exact ⟨_, rfl, by rw [HFR.out]; exact hown3, hL3.grown hg3 hL3.size (fun j e => (hown2.at_ j e).1)⟩
  · have hd : decide ((8192 : Int) < (n : Int)) = true := decide_eq_true (by omega)
    have hd' : decide (8192 < n) = true := decide_eq_true (by omega)
    rw [if_neg hbig, if_neg hbig]
    go_enter Try.func29, Try.ntmps29
    go_wp2_with fail
    go_ret2
    exact ⟨_, rfl, Own.nil _ _ _, Below.refl _ _⟩
end Go.Proofs.Ytmipaacobioakaa
