/- Walks: a number's bytes; the hash of all that came to a sum under way. -/
import Derived.Test.YtfconncnccgenaaShaR3
set_option linter.unusedVariables false
set_option linter.unusedSimpArgs false
namespace Go.Proofs.Ytfconncnccgenaa
open Go.RowKit
theorem Rd.byte1 {w : World} {t : TypeId} {z : Int} {c : UInt8} (h : z = (c.toNat : Int)) : Rd (w.alloc (.cells #[.int .u8 z] t)) (some ⟨w.heap.size, 0, none⟩) [c] := by
  subst h; exact Rd.lit w t [c]
theorem told_val (n i : Nat) : (n : Int) / 2 ^ (8 * i) % 256 = ((UInt8.ofNat (n / 256 ^ i)).toNat : Int) := by
  rw [UInt8.toNat_ofNat', show (2 : Int) ^ (8 * i) = ((256 ^ i : Nat) : Int) from by rw [Int.pow_mul, Int.natCast_pow]; rfl]
  omega
theorem told_take (n many i : Nat) (h : i < many) : (Sha.told n many).take (many - i) = (Sha.told n many).take (many - (i + 1)) ++ [UInt8.ofNat (n / 256 ^ i)] := by
  rw [show many - i = (many - (i + 1)) + 1 from by omega, List.take_succ_eq_append_getElem (by rw [Sha.told_len]; omega)]
  congr 2
  simp only [Sha.told, List.getElem_map, List.getElem_range]
  congr 3
  omega
set_option maxHeartbeats 400000 in
theorem told_any (n many : Nat) (w : World) (hn : n < 18446744073709551616) (hm : many ≤ 8) :
    Calls Try.prog 45 #[.int .u64 (n : Int), .int .i64 (many : Int)] w fun e w' => ∃ v, e = .returned v ∧ Own 5 w' w.heap.size v (Sha.told n many) ∧ Below w.heap.size w w' := by
  go_enter Try.func45, Try.ntmps45
  go_wp2
  go_loopw [4, 5] (fun v t wr => ∃ r : Nat, r ≤ many ∧ t = .int .i64 ((r : Int) - 1) ∧ Own 5 wr w.heap.size v ((Sha.told n many).take (many - r)) ∧ Below w.heap.size w wr) (fun _ t _ => (intOf t + 1).toNat)
  case atStart => exact ⟨many, by omega, rfl, by rw [Nat.sub_self]; exact Own.nil _ _ _, Below.refl _ _⟩
  case round =>
    obtain ⟨r, hk, rfl, hown, hb⟩ := hrel
    rcases r with _ | i
    · rw [Nat.sub_zero, List.take_of_length_le (by rw [Sha.told_len]; omega)] at hown
      go_wp2
      go_ret
      exact ⟨_, rfl, hown, hb⟩
    · rw [show (((i + 1 : Nat) : Int) - 1) = (i : Int) from by omega]
      have HN := Lib.hid (told_take n many i (by omega))
      have hlen : ((Sha.told n many).take (many - (i + 1))).length ≤ 8 := by rw [List.length_take, Sha.told_len]; omega
      generalize (Sha.told n many).take (many - (i + 1)) = acc at *
      go_wp2_with (first
        | (at_builtin; refine wpList_append_bytes rfl (.tmp 12) (.tmp 18) 23 rfl w.heap.size 5 Try.underlying23 (info5 : ByteInfo Try.prog 5) _ acc rfl (hown.alloc _) (some ⟨wr.heap.size, 0, none⟩) 1 1 [UInt8.ofNat (n / 256 ^ i)] rfl rfl (Rd.byte1 ?hz) (by omega) (by have := hb.size; simp; omega) ?_; rotate_left; intro v2 w2 hown2 hg2 hat2))
      case hz => exact told_val n i
      go_roundw
      case rel => exact ⟨i, by omega, rfl, by rw [HN.out]; exact hown2, (hb.alloc hb.size _).grown hg2 (by have := hb.size; simp; omega) (fun j hj => (hown.at_ j hj).1)⟩
      case measure => simp [intOf]
end Go.Proofs.Ytfconncnccgenaa
