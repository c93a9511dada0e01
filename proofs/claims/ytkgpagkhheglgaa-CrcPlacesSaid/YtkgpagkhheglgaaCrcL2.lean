/- Walks of the law CrcSums. -/
import Derived.Test.YtkgpagkhheglgaaCrcL1
import Derived.Test.YtkgpagkhheglgaaLaw
set_option linter.unusedVariables false
namespace Go.Proofs.Ytkgpagkhheglgaa
open Go.RowKit
def fewOk (ls : List (List UInt8)) (most : Nat) : Bool := decide (ls.length ≤ most) && ls.all fun l => decide (l.length ≤ 200)
def FewPost (ls : List (List UInt8)) (w : World) (e : Ending) (w' : World) : Prop := ∃ v, e = .returned (.tuple #[v, .bool true]) ∧ Own 5 w' w.heap.size v ls.flatten ∧ Below w.heap.size w w'
def FewNo (w : World) (e : Ending) (w' : World) : Prop := e = .returned (.tuple #[.slice none 0 0, .bool false]) ∧ Below w.heap.size w w'
theorem flat_small (ls : List (List UInt8)) (b : Nat) (h : ∀ l ∈ ls, l.length ≤ b) : ls.flatten.length ≤ ls.length * b := by
  induction ls with
  | nil => simp
  | cons x xs ih =>
    have h1 := h x (by simp)
    have h2 := ih (fun l hl => h l (by simp [hl]))
    simp only [List.flatten_cons, List.length_append, List.length_cons]
    rw [Nat.add_mul]
    omega
set_option maxHeartbeats 400000 in
theorem few_yes (A : Option Addr) (n ca most : Nat) (ls : List (List UInt8)) (w : World) (hn : ls.length = n) (hmo : n ≤ most) (hmm : most ≤ 1000) (hs : ∀ l ∈ ls, l.length ≤ 200) (hr : Rds w A ls) :
    Calls Try.prog 10 #[.slice A n ca, .int .i64 (most : Int)] w (FewPost ls w) := by
  subst hn
  have hfl := flat_small ls 200 hs
  have hbt : ls.flatten.length ≤ 200000 := by
    have : ls.length * 200 ≤ 1000 * 200 := Nat.mul_le_mul_right _ (by omega)
    omega
  have HS := Lib.hid hs
  have HB := Lib.hid hbt
  clear hs hfl hbt
  have hd : decide (most < ls.length) = false := by simp; omega
  go_enter Try.func10, Try.ntmps10
  go_wp2
  go_loopw [6, 7] (fun v t wr => ∃ k : Nat, k ≤ ls.length ∧ t = .int .i64 k ∧ Own 5 wr w.heap.size v (ls.take k).flatten ∧ Below w.heap.size w wr) (fun _ t _ => ls.length - (intOf t).toNat)
  case atStart => exact ⟨0, by omega, rfl, Own.nil _ _ _, Below.refl _ _⟩
  case round =>
    obtain ⟨k, hk, rfl, hown, hb⟩ := hrel
    by_cases hlt : k < ls.length
    · obtain ⟨b, o, Ai, ci, rfl, hc1, hrd1⟩ := hr.at_ hlt
      have hc : wr.cell? ⟨b, o + k, none⟩ = some (.slice Ai ls[k].length ci) := (hb.cell (p := ⟨b, o + k, none⟩) (block_lt_of_cell hc1)).trans hc1
      have hrd := hrd1.below hb
      have hle := flat_le ls (k + 1)
      have hf := flat_take ls k hlt
      have h200 := HS.out ls[k] (List.getElem_mem hlt)
      rw [hf, List.length_append] at hle
      have hle2 : (ls.take k).flatten.length + ls[k].length ≤ 140737488355328 := by have := HB.out; omega
      have HF := Lib.hid hf
      clear hf hle hrd1 hc1
      generalize (ls.take k).flatten = acc at *
      generalize ls[k] = l at *
      go_wp2_with (first
        | (at_builtin; refine wpList_append_bytes rfl (.tmp 24) (.tmp 28) 24 rfl w.heap.size 5 Try.underlying24 byteInfo _ acc rfl hown Ai l.length ci l rfl rfl hrd hle2 hb.size ?_; intro v2 w2 hown2 hg2 hat2))
      go_roundw
      case rel => exact ⟨k + 1, by omega, by go_num, by rw [HF.out]; exact hown2, hb.grown hg2 hb.size (fun k hk => (hown.at_ k hk).1)⟩
      case measure => simp [intOf]; omega
    · obtain rfl : k = ls.length := by omega
      rw [List.take_length] at hown
      go_wp2
      go_ret2
      exact ⟨_, rfl, hown, hb⟩
set_option maxHeartbeats 400000 in
theorem few_long (A : Option Addr) (n ca most : Nat) (w : World) (hmo : most < n) (hn : n ≤ 9223372036854775807) :
    Calls Try.prog 10 #[.slice A n ca, .int .i64 (most : Int)] w (FewNo w) := by
  go_enter Try.func10, Try.ntmps10
  go_wp2
  go_ret2
  exact ⟨rfl, Below.refl _ _⟩
set_option maxHeartbeats 400000 in
theorem few_wide (A : Option Addr) (n ca most : Nat) (ls : List (List UInt8)) (w : World) (hn : ls.length = n) (hmo : n ≤ most) (hmm : most ≤ 1000) (hsm : ∀ l ∈ ls, l.length ≤ 9223372036854775807) (hs : ∃ l ∈ ls, 200 < l.length) (hr : Rds w A ls) :
    Calls Try.prog 10 #[.slice A n ca, .int .i64 (most : Int)] w (FewNo w) := by
  subst hn
  have HS := Lib.hid hs
  have HM := Lib.hid hsm
  clear hs hsm
  have hd : decide (most < ls.length) = false := by simp; omega
  go_enter Try.func10, Try.ntmps10
  go_wp2
  go_loopw [6, 7] (fun v t wr => ∃ k : Nat, k ≤ ls.length ∧ t = .int .i64 k ∧ (∀ l ∈ ls.take k, l.length ≤ 200) ∧ Own 5 wr w.heap.size v (ls.take k).flatten ∧ Below w.heap.size w wr) (fun _ t _ => ls.length - (intOf t).toNat)
  case atStart => exact ⟨0, by omega, rfl, by simp, Own.nil _ _ _, Below.refl _ _⟩
  case round =>
    obtain ⟨k, hk, rfl, hso, hown, hb⟩ := hrel
    by_cases hlt : k < ls.length
    · obtain ⟨b, o, Ai, ci, rfl, hc1, hrd1⟩ := hr.at_ hlt
      have hc : wr.cell? ⟨b, o + k, none⟩ = some (.slice Ai ls[k].length ci) := (hb.cell (p := ⟨b, o + k, none⟩) (block_lt_of_cell hc1)).trans hc1
      have hrd := hrd1.below hb
      have hmx := HM.out ls[k] (List.getElem_mem hlt)
      by_cases h200 : ls[k].length ≤ 200
      · have hf := flat_take ls k hlt
        have hfl := flat_small (ls.take k) 200 hso
        rw [List.length_take] at hfl
        have : min k ls.length * 200 ≤ 1000 * 200 := Nat.mul_le_mul_right _ (by omega)
        have hle2 : (ls.take k).flatten.length + ls[k].length ≤ 140737488355328 := by omega
        have hso2 : ∀ l ∈ ls.take (k + 1), l.length ≤ 200 := by
          rw [List.take_succ_eq_append_getElem hlt]
          intro l hl
          rcases List.mem_append.1 hl with h | h
          · exact hso l h
          · rw [List.mem_singleton.1 h]; exact h200
        have HSO := Lib.hid hso2
        have HF := Lib.hid hf
        clear hf hfl this hrd1 hc1 hso hso2
        generalize (ls.take k).flatten = acc at *
        generalize ls[k] = l at *
        go_wp2_with (first
          | (at_builtin; refine wpList_append_bytes rfl (.tmp 24) (.tmp 28) 24 rfl w.heap.size 5 Try.underlying24 byteInfo _ acc rfl hown Ai l.length ci l rfl rfl hrd hle2 hb.size ?_; intro v2 w2 hown2 hg2 hat2))
        go_roundw
        case rel => exact ⟨k + 1, by omega, by go_num, HSO.out, by rw [HF.out]; exact hown2, hb.grown hg2 hb.size (fun k hk => (hown.at_ k hk).1)⟩
        case measure => simp [intOf]; omega
      · clear hso hrd1 hc1
        generalize ls[k] = l at *
        go_wp2
        go_ret2
        exact ⟨rfl, hb⟩
    · obtain rfl : k = ls.length := by omega
      rw [List.take_length] at hso
      obtain ⟨l, hl, hl2⟩ := HS.out
      have := hso l hl
      omega
end Go.Proofs.Ytkgpagkhheglgaa
