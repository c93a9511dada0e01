/- Walks: a number's bytes are laid behind others. -/
import Derived.Test.YtmipaacobioakaaWrMath
set_option linter.unusedVariables false
set_option linter.unusedSimpArgs false
namespace Go.Proofs.Ytmipaacobioakaa
open Go.RowKit
def Grew (w w' : World) (v v' : Value) : Prop := w.grownBy w' v.ownBlock ∧ ∀ k, v'.ownBlock = some k → v.ownBlock = some k ∨ w.heap.size ≤ k
theorem Grew.refl (w : World) (v : Value) : Grew w w v v := ⟨grown_refl _ _, fun k h => .inl h⟩
theorem Grew.trans {w w1 w2 : World} {v v1 v2 : Value} (h : Grew w w1 v v1) (k : Grew w1 w2 v1 v2) : Grew w w2 v v2 := by
  refine ⟨⟨k.1.os.trans h.1.os, k.1.tape.trans h.1.tape, k.1.output.trans h.1.output, Nat.le_trans h.1.size k.1.size, fun i hi hn => ?_⟩, fun i hi => ?_⟩
  · refine (k.1.block i (Nat.lt_of_lt_of_le hi h.1.size) (fun e => ?_)).trans (h.1.block i hi hn)
    rcases h.2 i e.symm with e2 | e2
    · exact hn e2.symm
    · omega
  · rcases k.2 i hi with e | e
    · exact h.2 i e
    · exact .inr (Nat.le_trans h.1.size e)
theorem Grew.alloc {w w' : World} {o : Obj} {v v' : Value} (hg : (w.alloc o).grownBy w' v.ownBlock) (hat : v'.ownBlock = v.ownBlock ∨ v'.ownBlock = some (w.alloc o).heap.size) : Grew w w' v v' := by
  refine ⟨⟨hg.os, hg.tape, hg.output, by have := hg.size; simp only [World.size_alloc] at this; omega, fun k hk hn => (hg.block k (by simp only [World.size_alloc]; omega) hn).trans (Below.heap_alloc w o k hk)⟩, fun k hk => ?_⟩
  rcases hat with e | e
  · exact .inl (e ▸ hk)
  · rw [e] at hk
    injection hk with hk
    exact .inr (by simp only [World.size_alloc] at hk; omega)
set_option maxRecDepth 100000 in
set_option maxHeartbeats 1000000 in
theorem high_any (v : Value) (l : List UInt8) (n k : Nat) (base : Nat) (w : World) (hk : k ≤ 8) (hn : n < 9223372036854775808) (hl : l.length ≤ 1000000000) (hb : base ≤ w.heap.size) (ho : Own 5 w base v l) :
    Calls Try.prog 68 #[v, .int .i64 (n : Int), .int .i64 (k : Int)] w fun e w' => ∃ v', e = .returned v' ∧ Own 5 w' base v' (l ++ Wr.be k n) ∧ Grew w w' v v' := by
  go_enter Try.func68, Try.ntmps68
  go_wp2_with fail
  go_loopw [0, 9] (fun u0 t wr => ∃ i : Nat, i ≤ k ∧ t = .int .i64 (i : Int) ∧ Own 5 wr base u0 (l ++ (Wr.be k n).take i) ∧ Grew w wr v u0) (fun u0 t _ => k - (intOf t).toNat)
  case atStart => exact ⟨0, by omega, rfl, by simpa using ho, Grew.refl _ _⟩
  case round =>
    obtain ⟨i, hi, rfl, hown, hgr⟩ := hrel
    by_cases hlt : i < k
    · have hd : decide ((i : Int) < (k : Int)) = true := decide_eq_true (by omega)
      have hbw : base ≤ wr.heap.size := Nat.le_trans hb hgr.1.size
      have hbyte : (n : Int) / 2 ^ (8 * (k - 1 - i)) % 256 = ((Wr.at_ n k i).toNat : Int) := by
        unfold Wr.at_
        rw [UInt8.toNat_ofNat']
        simp
      have hll : (l ++ (Wr.be k n).take i).length ≤ 1000000008 := by rw [List.length_append, List.length_take, Wr.be_len]; omega
      have hnx : l ++ (Wr.be k n).take (i + 1) = (l ++ (Wr.be k n).take i) ++ [Wr.at_ n k i] := by rw [Wr.be_take k n i hlt, List.append_assoc]
      have HNX := Lib.hid hnx
      clear hnx
      go_wp2_with (first
        | (at_builtin; refine wpList_append_bytes rfl (.tmp 12) (.tmp 21) 22 rfl base 5 Try.underlying22 byteInfo _ _ rfl (hown.alloc _) (some ⟨wr.heap.size, 0, none⟩) 1 1 [Wr.at_ n k i] rfl rfl (Rd.byte1 hbyte) (by omega) (by simp only [World.size_alloc]; omega) ?_; intro v' w' hown' hg' hat')
        | fail)
      go_roundw
      case rel => exact ⟨i + 1, by omega, by go_num, by rw [HNX.out]; exact hown', hgr.trans (Grew.alloc hg' hat')⟩
      case measure => simp [intOf]; omega
    · obtain rfl : i = k := by omega
      have hd : decide ((i : Int) < (i : Int)) = false := decide_eq_false (by omega)
      rw [List.take_of_length_le (by rw [Wr.be_len]; exact Nat.le_refl _)] at hown
      go_wp2_with fail
      go_ret
      exact ⟨_, rfl, hown, hgr⟩
def Wr.nb (n : Int) : List UInt8 := if n < 253 then [UInt8.ofNat (n % 256).toNat] else Wr.bytes n.toNat
theorem Wr.nb_nat (n : Nat) : Wr.nb (n : Int) = Wr.bytes n := by
  unfold Wr.nb
  split
  · next h =>
    rw [Wr.bytes, if_pos (by omega), show ((n : Int) % 256).toNat = n by omega]
  · rfl
theorem Wr.nb_le (n : Int) : (Wr.nb n).length ≤ 9 := by
  unfold Wr.nb
  split
  · simp
  · exact Wr.bytes_le _
set_option maxRecDepth 100000 in
set_option maxHeartbeats 1000000 in
theorem number_any (v : Value) (l : List UInt8) (n : Int) (base : Nat) (w : World) (hn : n < 9223372036854775808) (hl : l.length ≤ 900000000) (hb : base ≤ w.heap.size) (ho : Own 5 w base v l) :
    Calls Try.prog 39 #[v, .int .i64 n] w fun e w' => ∃ v', e = .returned v' ∧ Own 5 w' base v' (l ++ Wr.nb n) ∧ Grew w w' v v' := by
  by_cases h1 : n < 253
  · have hd : decide (n < 253) = true := decide_eq_true h1
    have hnb : Wr.nb n = [UInt8.ofNat (n % 256).toNat] := if_pos h1
    rw [hnb]
    clear hnb
    go_enter Try.func39, Try.ntmps39
    go_wp2_with (first
      | (at_builtin; refine wpList_append_bytes rfl (.tmp 8) (.tmp 11) 22 rfl base 5 Try.underlying22 byteInfo v l rfl (ho.alloc _) (some ⟨w.heap.size, 0, none⟩) 1 1 [UInt8.ofNat (n % 256).toNat] rfl rfl (Rd.byteZ (by omega) (by omega)) (by omega) (by simp only [World.size_alloc]; omega) ?_; intro v' w' hown' hg' hat')
      | fail)
    go_ret
    exact ⟨_, rfl, hown', Grew.alloc hg' hat'⟩
  · obtain ⟨m, rfl⟩ : ∃ m : Nat, n = m := ⟨n.toNat, by omega⟩
    have hd : decide ((m : Int) < 253) = false := decide_eq_false h1
    rw [Wr.nb_nat]
    by_cases h2 : m < 65536
    · have hd2 : decide ((m : Int) < 65536) = true := decide_eq_true (by omega)
      have hbs : l ++ Wr.bytes m = (l ++ [253]) ++ Wr.be 2 m := by rw [Wr.bytes, if_neg (by omega), if_pos (by omega), List.append_assoc]; rfl
      have HBS := Lib.hid hbs
      clear hbs
      go_enter Try.func39, Try.ntmps39
      go_wp2_with (first
        | (at_builtin; refine wpList_append_bytes rfl (.tmp 16) (.tmp 17) 22 rfl base 5 Try.underlying22 byteInfo v l rfl (ho.alloc _) (some ⟨w.heap.size, 0, none⟩) 1 1 [253] rfl rfl (Rd.byte1 rfl) (by omega) (by simp only [World.size_alloc]; omega) ?_; intro v1 w1 hown1 hg1 hat1)
        | (go_at_call 68; refine (high_any v1 (l ++ [253]) m 2 base w1 (by decide) (by omega) (by simp; omega) (Nat.le_trans hb (by have := hg1.size; simp only [World.size_alloc] at this; omega)) hown1).mono ?_; rintro e w2 ⟨v2, rfl, hown2, hgr2⟩)
        | fail)
      go_ret
      exact ⟨_, rfl, by rw [HBS.out]; exact hown2, (Grew.alloc hg1 hat1).trans hgr2⟩
    have hd2 : decide ((m : Int) < 65536) = false := decide_eq_false (by omega)
    by_cases h4 : m < 4294967296
    · have hd4 : decide ((m : Int) < 4294967296) = true := decide_eq_true (by omega)
      have hbs : l ++ Wr.bytes m = (l ++ [254]) ++ Wr.be 4 m := by rw [Wr.bytes, if_neg (by omega), if_neg (by omega), if_pos (by omega), List.append_assoc]; rfl
      have HBS := Lib.hid hbs
      clear hbs
      go_enter Try.func39, Try.ntmps39
      go_wp2_with (first
        | (at_builtin; refine wpList_append_bytes rfl (.tmp 24) (.tmp 25) 22 rfl base 5 Try.underlying22 byteInfo v l rfl (ho.alloc _) (some ⟨w.heap.size, 0, none⟩) 1 1 [254] rfl rfl (Rd.byte1 rfl) (by omega) (by simp only [World.size_alloc]; omega) ?_; intro v1 w1 hown1 hg1 hat1)
        | (go_at_call 68; refine (high_any v1 (l ++ [254]) m 4 base w1 (by decide) (by omega) (by simp; omega) (Nat.le_trans hb (by have := hg1.size; simp only [World.size_alloc] at this; omega)) hown1).mono ?_; rintro e w2 ⟨v2, rfl, hown2, hgr2⟩)
        | fail)
      go_ret
      exact ⟨_, rfl, by rw [HBS.out]; exact hown2, (Grew.alloc hg1 hat1).trans hgr2⟩
    have hd4 : decide ((m : Int) < 4294967296) = false := decide_eq_false (by omega)
    have hbs : l ++ Wr.bytes m = (l ++ [255]) ++ Wr.be 8 m := by rw [Wr.bytes, if_neg (by omega), if_neg (by omega), if_neg (by omega), List.append_assoc]; rfl
    have HBS := Lib.hid hbs
    clear hbs
    go_enter Try.func39, Try.ntmps39
    go_wp2_with (first
      | (at_builtin; refine wpList_append_bytes rfl (.tmp 29) (.tmp 30) 22 rfl base 5 Try.underlying22 byteInfo v l rfl (ho.alloc _) (some ⟨w.heap.size, 0, none⟩) 1 1 [255] rfl rfl (Rd.byte1 rfl) (by omega) (by simp only [World.size_alloc]; omega) ?_; intro v1 w1 hown1 hg1 hat1)
      | (go_at_call 68; refine (high_any v1 (l ++ [255]) m 8 base w1 (by decide) (by omega) (by simp; omega) (Nat.le_trans hb (by have := hg1.size; simp only [World.size_alloc] at this; omega)) hown1).mono ?_; rintro e w2 ⟨v2, rfl, hown2, hgr2⟩)
      | fail)
    go_ret
    exact ⟨_, rfl, by rw [HBS.out]; exact hown2, (Grew.alloc hg1 hat1).trans hgr2⟩
end Go.Proofs.Ytmipaacobioakaa
