/- slices.Grow of nil and slices.Concat, on bytes. -/
import Derived.Test.YtkgpagkhheglgaaSlEq
import Derived.Lib.AppendZeros
namespace Go.Proofs.Ytkgpagkhheglgaa
open Go.RowKit
theorem own_grown (w : World) (U : TypeId) (n : Nat) (hn : n ≤ 140737488355328) :
    Own U (w.drew.alloc (.cells (Builtin.zeroCells #[.int .u8 0] n ++ Builtin.zeroCells #[.int .u8 0] (grownCap w n 0 U - n)) U)) w.heap.size (.slice (some ⟨w.heap.size, 0, none⟩) 0 (grownCap w n 0 U)) [] := by
  refine ⟨rfl, .inr ⟨_, _, _, rfl, Nat.le_refl _, heap_alloc_new w.drew _, Nat.zero_le _, grownCap_le_maxLen w n 0 U (by unfold maxLen; omega), ?_, rfl⟩⟩
  have := grownCap_ge w n 0 U
  simp only [Array.size_append, size_zeroCells, List.size_toArray, List.length_cons, List.length_nil]
  omega
theorem grow_nil (n : Nat) (w : World) (hn : n ≤ 140737488355328) :
    Calls Try.prog 42 #[.slice none 0 0, .int .i64 (n : Int)] w fun e w' => ∃ v, e = .returned v ∧ Own 5 w' w.heap.size v [] ∧ Below w.heap.size w w' := by
  obtain ⟨i, hi0, hz, hs, hb⟩ := info_parts (byteInfo : ByteInfo _ _)
  by_cases h0 : 0 < n
  · have hrun := Lib.run_append_nil_zeros (P := Try.prog) w 24 3 24 5 i (.int .u8 0) .i64 .i64 Try.underlying24 Try.underlying3 hi0 hz n h0 (by omega) (by omega) (by rw [hb]; omega)
    have HR := Lib.hid hrun
    clear hrun hi0 hz hs hb
    have hge := grownCap_ge w n 0 5
    go_enter Try.func42, Try.ntmps42
    go_wp2_with (first
      | (at_builtin; refine Lib.wpList_append_run _ rfl (.tmp 20) (.tmp 21) 24 3 rfl _ _ rfl rfl _ _ HR.out ?_))
    go_ret
    exact ⟨_, rfl, own_grown w _ n hn, (Below.refl _ _).drew.alloc (Nat.le_refl _) _⟩
  · obtain rfl : n = 0 := by omega
    clear hi0 hz hs hb
    go_enter Try.func42, Try.ntmps42
    go_wp2
    go_ret
    exact ⟨_, rfl, Own.nil _ _ _, Below.refl _ _⟩
theorem flat_take (ls : List (List UInt8)) (k : Nat) (h : k < ls.length) : (ls.take (k + 1)).flatten = (ls.take k).flatten ++ ls[k] := by
  rw [List.take_succ_eq_append_getElem h, List.flatten_append]; simp
theorem flat_le (ls : List (List UInt8)) (k : Nat) : (ls.take k).flatten.length ≤ ls.flatten.length := by
  conv => rhs; rw [← List.take_append_drop k ls, List.flatten_append, List.length_append]
  omega
set_option maxHeartbeats 400000 in
theorem concat_any (A : Option Addr) (n ca : Nat) (ls : List (List UInt8)) (w : World) (hn : ls.length = n) (hbn : n ≤ 140737488355328) (hbt : ls.flatten.length ≤ 140737488355328) (hr : Rds w A ls) :
    Calls Try.prog 34 #[.slice A n ca] w fun e w' => ∃ v, e = .returned v ∧ Own 5 w' w.heap.size v ls.flatten ∧ Below w.heap.size w w' := by
  subst hn
  go_enter Try.func34, Try.ntmps34
  go_wp2
  go_loop [3, 11] (fun s t => ∃ k : Nat, k ≤ ls.length ∧ t = .int .i64 k ∧ s = .int .i64 (ls.take k).flatten.length) (fun _ t => ls.length - (intOf t).toNat)
  case atStart => exact ⟨0, by omega, rfl, rfl⟩
  case round =>
    obtain ⟨k, hk, rfl, rfl⟩ := hrel
    by_cases hlt : k < ls.length
    · obtain ⟨b, o, Ai, ci, rfl, hc, hrd⟩ := hr.at_ hlt
      have hle := flat_le ls (k + 1)
      have hf := flat_take ls k hlt
      have hfl : (ls.take (k + 1)).flatten.length = (ls.take k).flatten.length + ls[k].length := by rw [hf, List.length_append]
      have hle2 : (ls.take k).flatten.length + ls[k].length ≤ 140737488355328 := by omega
      have HF := Lib.hid hfl
      clear hf hfl hle hrd
      generalize (ls.take k).flatten.length = m at *
      generalize ls[k].length = q at *
      go_wp2
      go_round
      case rel => exact ⟨k + 1, by omega, by go_num, by rw [HF.out]; go_num⟩
      case measure => simp [intOf]; omega
    · obtain rfl : k = ls.length := by omega
      rw [List.take_length]
      obtain ⟨tot, htot⟩ : ∃ tot, ls.flatten.length = tot := ⟨_, rfl⟩
      have HT := Lib.hid htot
      have hbt' : tot ≤ 140737488355328 := by omega
      rw [htot]
      clear htot
      go_wp2_with (first | (go_at_call 42; refine (grow_nil tot _ hbt').mono ?_; rintro e w1 ⟨v1, rfl, hown1, hb1⟩))
      go_loopw [6, 27] (fun v t wr => ∃ k : Nat, k ≤ ls.length ∧ t = .int .i64 k ∧ Own 5 wr w.heap.size v (ls.take k).flatten ∧ Below w.heap.size w wr) (fun _ t _ => ls.length - (intOf t).toNat)
      case atStart => exact ⟨0, by omega, rfl, hown1, hb1⟩
      case round =>
        obtain ⟨k, hk, rfl, hown, hb⟩ := hrel
        by_cases hlt : k < ls.length
        · obtain ⟨b, o, Ai, ci, rfl, hc1, hrd1⟩ := hr.at_ hlt
          have hc : wr.cell? ⟨b, o + k, none⟩ = some (.slice Ai ls[k].length ci) := (hb.cell (p := ⟨b, o + k, none⟩) (block_lt_of_cell hc1)).trans hc1
          have hrd := hrd1.below hb
          have hle := flat_le ls (k + 1)
          have hf := flat_take ls k hlt
          rw [hf, List.length_append] at hle
          have hle2 : (ls.take k).flatten.length + ls[k].length ≤ 140737488355328 := by omega
          have HF := Lib.hid hf
          clear hf hle hrd1 hc1
          generalize (ls.take k).flatten = acc at *
          generalize ls[k] = l at *
          go_wp2_with (first
            | (at_builtin; refine wpList_append_bytes rfl (.tmp 31) (.tmp 32) 24 rfl w.heap.size 5 Try.underlying24 byteInfo _ acc rfl hown Ai l.length ci l rfl rfl hrd hle2 hb.size ?_; intro v2 w2 hown2 hg2 hat2))
          go_roundw
          case rel => exact ⟨k + 1, by omega, by go_num, by rw [HF.out]; exact hown2, hb.grown hg2 hb.size (fun k hk => (hown.at_ k hk).1)⟩
          case measure => simp [intOf]; omega
        · obtain rfl : k = ls.length := by omega
          rw [List.take_length] at hown
          go_wp2
          go_ret
          exact ⟨_, rfl, hown, hb⟩
end Go.Proofs.Ytkgpagkhheglgaa
