/- Walks: a word's four bytes; sealed bytes, opened ones. -/
import Derived.Test.YtkgpagkhheglgaaCrcW2
import Derived.Test.YtkgpagkhheglgaaSlCat
import Derived.Outline
import Derived.Deep.RegionWith
namespace Go.Proofs.Ytkgpagkhheglgaa
open Go.RowKit
def byteAt (x : BitVec 32) (k : Nat) : UInt8 := UInt8.ofNat (x.toNat / 2 ^ (8 * k))
def low4 (x : BitVec 32) : List UInt8 := [byteAt x 0, byteAt x 1, byteAt x 2, byteAt x 3]
theorem byteAt_val (x : BitVec 32) (k : Nat) : ((byteAt x k).toNat : Int) = (x.toNat : Int) / (2 ^ (8 * k) : Nat) % 256 := by
  unfold byteAt; rw [UInt8.toNat_ofNat']; omega
theorem low4_take (x : BitVec 32) (k : Nat) (h : k < 4) : (low4 x).take (k + 1) = (low4 x).take k ++ [byteAt x k] := by
  rcases k with _ | _ | _ | _ | k
  · rfl
  · rfl
  · rfl
  · rfl
  · omega
theorem Rd.byte1 {w : World} {t : TypeId} {z : Int} {c : UInt8} (h : z = (c.toNat : Int)) : Rd (w.alloc (.cells #[.int .u8 z] t)) (some ⟨w.heap.size, 0, none⟩) [c] := by
  subst h; exact Rd.lit w t [c]
set_option maxHeartbeats 400000 in
theorem low_any (x : BitVec 32) (w : World) :
    Calls Try.prog 35 #[.int .u32 (x.toNat : Int)] w fun e w' => ∃ v, e = .returned v ∧ Own 5 w' w.heap.size v (low4 x) ∧ Below w.heap.size w w' := by
  have hx := x.isLt
  go_enter Try.func35, Try.ntmps35
  go_wp2
  go_loopw [2, 4] (fun v t wr => ∃ k : Nat, k ≤ 4 ∧ t = .int .i64 k ∧ Own 5 wr w.heap.size v ((low4 x).take k) ∧ Below w.heap.size w wr) (fun _ t _ => 4 - (intOf t).toNat)
  case atStart => exact ⟨0, by omega, rfl, Own.nil _ _ _, Below.refl _ _⟩
  case round =>
    obtain ⟨k, hk, rfl, hown, hb⟩ := hrel
    by_cases hlt : k < 4
    · have hnx : (low4 x).take (k + 1) = (low4 x).take k ++ [byteAt x k] := low4_take x k hlt
      have HN := Lib.hid hnx
      have hlen : ((low4 x).take k).length ≤ 4 := by rw [List.length_take]; omega
      clear hnx
      generalize (low4 x).take k = acc at *
      go_wp2_with (first
        | (at_builtin; refine wpList_append_bytes rfl (.tmp 7) (.tmp 13) 24 rfl w.heap.size 5 Try.underlying24 byteInfo _ acc rfl (hown.alloc _) (some ⟨wr.heap.size, 0, none⟩) 1 1 [byteAt x k] rfl rfl (Rd.byte1 ?hz) (by omega) (by have := hb.size; simp; omega) ?_; rotate_left; intro v2 w2 hown2 hg2 hat2))
      case hz => rw [byteAt_val]; push_cast; rfl
      go_roundw
      case rel => exact ⟨k + 1, by omega, by go_num, by rw [HN.out]; exact hown2, (hb.alloc hb.size _).grown hg2 (by have := hb.size; simp; omega) (fun j hj => (hown.at_ j hj).1)⟩
      case measure => simp [intOf]; omega
    · obtain rfl : k = 4 := by omega
      go_wp2
      go_ret
      exact ⟨_, rfl, hown, hb⟩
set_option maxHeartbeats 400000 in
theorem seal_any (A : Option Addr) (n ca : Nat) (ls : List (List UInt8)) (w : World) (hn : ls.length = n) (hbn : n ≤ 1099511627776) (hbt : ls.flatten.length ≤ 1099511627776) (hp : ∀ l ∈ ls, l.length ≤ 1099511627776) (hr : Rds w A ls) :
    Calls Try.prog 21 #[.slice A n ca] w fun e w' => ∃ v, e = .returned v ∧ Own 5 w' w.heap.size v (ls.flatten ++ low4 (Crc.sum ls.flatten)) ∧ Below w.heap.size w w' := by
  have HN := Lib.hid hn
  have HP := Lib.hid hp
  have HB := Lib.hid hbt
  clear hn hp hbt
  go_enter Try.func21, Try.ntmps21
  go_wp2_with (first
    | (go_at_call 34; refine (concat_any A n ca ls _ HN.out (by omega) (by have := HB.out; omega) hr).mono ?_; rintro e w1 ⟨v1, rfl, hown1, hb1⟩; have hr1 := hr.below hb1)
    | (go_at_call 12; refine (sum_any A n ca ls _ HN.out hbn HP.out hr1).mono ?_; rintro e w2 ⟨rfl, hb2⟩; have hown2 := hown1.below hb2)
    | (go_at_call 35; refine (low_any _ _).mono ?_; rintro e w3 ⟨v3, rfl, hown3, hb3⟩; obtain ⟨A3, c3, rfl, _, _, hrd3⟩ := hown3.slice; have hown2' := hown2.below hb3)
    | (at_builtin; refine wpList_append_bytes rfl (.tmp 4) (.tmp 7) 24 rfl w.heap.size 5 Try.underlying24 byteInfo _ _ rfl hown2' A3 4 c3 (low4 (Crc.sum ls.flatten)) rfl rfl hrd3 (by have := HB.out; omega) (by have := hb1.size; have := hb2.size; have := hb3.size; omega) ?_; intro v4 w4 hown4 hg4 hat4))
  go_ret
  have hb13 : Below w.heap.size w w3 := (hb1.trans (hb2.mono hb1.size)).trans (hb3.mono (by have := hb1.size; have := hb2.size; omega))
  exact ⟨_, rfl, hown4, hb13.grown hg4 hb13.size (fun j hj => (hown2'.at_ j hj).1)⟩
end Go.Proofs.Ytkgpagkhheglgaa
