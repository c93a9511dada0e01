/- Walks: what the statements of layer 2 use: the parts put together; an error's number. -/
import Derived.Test.YtbjclmfhmdalkaaHm10
import Derived.Test.YtbjclmfhmdalkaaHm2
set_option linter.unusedVariables false
set_option linter.unusedSimpArgs false
namespace Go.Proofs.Ytbjclmfhmdalkaa
open Go.RowKit
def fits (ls : List (List UInt8)) (most : Nat) : Prop := ls.length ≤ most ∧ ∀ l ∈ ls, l.length ≤ 200
set_option maxRecDepth 100000 in
set_option maxHeartbeats 1000000 in
theorem few_any (B : Option Addr) (m cb : Nat) (ls : List (List UInt8)) (most : Nat) (w : World) (hls : ls.length = m) (hmost : most ≤ 1000) (hm : m ≤ 9223372036854775807) (hrs : RdsC w B ls) :
    Calls Try.prog 9 #[.slice B m cb, .int .i64 (most : Int)] w fun e w' => ((fits ls most ∧ ∃ v, e = .returned (.tuple #[v, .bool true]) ∧ Own 5 w' w.heap.size v ls.flatten) ∨ (¬ fits ls most ∧ e = .returned (.tuple #[.slice none 0 0, .bool false]))) ∧ Below w.heap.size w w' := by
  subst hls
  have HR := Lib.hid hrs
  clear hrs
  by_cases h1 : most < ls.length
  · have hd : decide (most < ls.length) = true := by simpa using h1
    have hd' : decide ((most : Int) < (ls.length : Int)) = true := by simp; omega
    go_enter Try.func9, Try.ntmps9
    go_wp2
    go_ret2
    exact ⟨.inr ⟨fun h => by have := h.1; omega, rfl⟩, Below.refl _ _⟩
  · have hd : decide (most < ls.length) = false := by simpa using h1
    have hd' : decide ((most : Int) < (ls.length : Int)) = false := by simp; omega
    go_enter Try.func9, Try.ntmps9
    go_wp2_with fail
    go_loopw [6, 7] (fun v t wr => ∃ k : Nat, k ≤ ls.length ∧ t = .int .i64 (k : Int) ∧ Own 5 wr w.heap.size v (ls.take k).flatten ∧ (∀ i (h : i < ls.length), i < k → ls[i].length ≤ 200) ∧ (ls.take k).flatten.length ≤ 200 * k ∧ Below w.heap.size w wr) (fun _ t _ => ls.length - (intOf t).toNat)
    case atStart => exact ⟨0, by omega, rfl, Own.nil _ _ _, fun i _ h => by omega, by simp, Below.refl _ _⟩
    case round =>
      obtain ⟨k, hk, rfl, hown, hall, hlen, hb⟩ := hrel
      have HALL := Lib.hid hall
      have hbs := hb.size
      clear hall
      by_cases hlt : k < ls.length
      · obtain ⟨b, o, Ai, ci, rfl, hc1, hci, hcim, hrd1⟩ := HR.out.at_ hlt
        have hc : wr.cell? ⟨b, o + k, none⟩ = some (.slice Ai ls[k].length ci) := (hb.cell (p := ⟨b, o + k, none⟩) (block_lt_of_cell hc1)).trans hc1
        have hrd := hrd1.below hb
        have hnext : (ls.take (k + 1)).flatten = (ls.take k).flatten ++ ls[k] := by
          rw [List.take_succ_eq_append_getElem hlt, List.flatten_append]; simp
        have HN := Lib.hid hnext
        have hmem : ls[k] ∈ ls := List.getElem_mem hlt
        have HMEM := Lib.hid hmem
        obtain ⟨x, hx⟩ : ∃ x, ls[k] = x := ⟨_, rfl⟩
        rw [hx] at hc hrd hci
        rw [hx] at HN HMEM
        have HX := Lib.hid hx
        clear hnext hc1 hrd1 hmem hx hd hd'
        generalize (ls.take k).flatten = z at *
        by_cases h2 : 200 < x.length
        · have hd2 : decide (200 < x.length) = true := by simpa using h2
          have hd2' : decide ((200 : Int) < (x.length : Int)) = true := by simp; omega
          go_wp2_with fail
          go_ret2
          exact ⟨.inr ⟨fun h => by have := h.2 x HMEM.out; omega, rfl⟩, hb⟩
        · have hd2 : decide (200 < x.length) = false := by simpa using h2
          have hd2' : decide ((200 : Int) < (x.length : Int)) = false := by simp; omega
          go_wp2_with (first
            | (at_builtin; refine wpList_append_bytes rfl (.tmp 24) (.tmp 28) 22 rfl w.heap.size 5 Try.underlying22 byteInfo8 _ z rfl hown Ai x.length ci x rfl rfl hrd (by omega) hbs ?_; intro v2 w2 hown2 hg2 hat2)
            | fail)
          go_roundw
          case rel => exact ⟨k + 1, by omega, by go_num, by rw [HN.out]; exact hown2, fun i hi h3 => by
            by_cases e : i = k
            · subst e; rw [HX.out]; omega
            · exact HALL.out i hi (by omega), by rw [HN.out, List.length_append]; omega, hb.grown hg2 hbs (fun j e => (hown.at_ j e).1)⟩
          case measure => simp [intOf]; omega
      · obtain rfl : k = ls.length := by omega
        rw [List.take_length] at hown
        clear hd hd'
        go_wp2_with fail
        go_ret2
        exact ⟨.inl ⟨⟨by omega, fun l hl => by
          obtain ⟨i, hi, rfl⟩ := List.getElem_of_mem hl
          exact HALL.out i hi hi⟩, _, rfl, hown⟩, hb⟩
theorem num2_any (n : Int) (w : World) : Calls Try.prog 15 #[.int .i64 n] w fun e w' => e = .returned (.int .i64 n) ∧ w = w' := by
  go_enter Try.func15, Try.ntmps15
  go_wp2
  go_ret
  exact ⟨rfl, rfl⟩
theorem fits_len {ls : List (List UInt8)} {most : Nat} (h : fits ls most) : ls.flatten.length ≤ 200 * most := by
  obtain ⟨h1, h2⟩ := h
  have : ∀ l : List (List UInt8), (∀ x ∈ l, x.length ≤ 200) → l.flatten.length ≤ 200 * l.length := by
    intro l
    induction l with
    | nil => simp
    | cons a l ih =>
      intro h
      have h3 := ih (fun x hx => h x (by simp [hx]))
      have h4 := h a (by simp)
      simp only [List.flatten_cons, List.length_append, List.length_cons]
      omega
  have := this ls h2
  omega
end Go.Proofs.Ytbjclmfhmdalkaa
