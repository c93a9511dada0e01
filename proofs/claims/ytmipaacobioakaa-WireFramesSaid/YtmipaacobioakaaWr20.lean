/- Walks: the rows that every law of the wire layer asks (works), right. -/
import Derived.Test.YtmipaacobioakaaWr19
set_option linter.unusedVariables false
set_option linter.unusedSimpArgs false
namespace Go.Proofs.Ytmipaacobioakaa
open Go.RowKit
theorem later_of_same {W W1 W2 : World} {g : Nat} (hb : Later W W1) (hg : W.heap.size ≤ g) (hs : Same (fun k => k < W1.heap.size ∧ k ≠ g) W1 W2) : Later W W2 :=
  ((Same.of_below hb).trans (hs.mono fun k h => ⟨Nat.lt_of_lt_of_le h hb.size, by omega⟩)).below
theorem later_of_wrote {W W1 W2 : World} {g : Nat} {r r' : Option Nat} (hb : Later W W1) (hg : W.heap.size ≤ g) (hr : ∀ k, r = some k → W.heap.size ≤ k) (hs : Wrote W1 W2 g r r') : Later W W2 :=
  ((Same.of_below hb).trans (hs.1.mono fun k h => ⟨Nat.lt_of_lt_of_le h hb.size, by omega, fun e => by have := hr k e.symm; omega⟩)).below
set_option maxRecDepth 100000 in
set_option maxHeartbeats 1000000 in
theorem wworks_any (w : World) : Calls Try.prog 9 #[] w fun e w' => e = .returned (.bool true) ∧ Later w w' := by
  go_enter Try.func9, Try.ntmps9
  go_wp2_with fail
  refine (new_any w).mono ?_
  rintro e w1 ⟨rfl, hw1, hL1, hlt1⟩
  obtain ⟨g, hg⟩ : ∃ g, g = w.heap.size := ⟨_, rfl⟩
  rw [← hg] at hw1 ⊢
  have hlt1' : g < w1.heap.size := by omega
  have HG := Lib.hid hg
  clear hg hlt1
  go_wp2_with fail
  refine (wNumber_any g none [] _ 3 3 [252, 253, 65536] _ rfl (by omega) (by simp) (RdV.row (Row.new w1 2 #[numV 252, numV 253, numV 65536])) (fun b o e _ => ⟨by cases e; omega, by simp⟩) (hw1.later ((Later.refl w1).alloc _))).mono ?_
  rintro e w2 (⟨h, _⟩ | ⟨_, rfl, r, hw2, hwr⟩)
  · exact absurd h (by decide)
  rw [show [] ++ Wr.nums [252, 253, 65536] = [252, 253, 0, 253, 254, 0, 1, 0, 0] from by decide +kernel] at hw2
  have hL2 := later_of_wrote (hL1.alloc _) (by have := HG.out; omega) (fun k e => by cases e) hwr
  clear hwr hw1 hL1 hlt1'
  go_wp2_with fail
  refine (read_any _ 3 3 [253, 0, 252] _ rfl (by omega) (Rd.lit_at rfl rfl)).mono ?_
  rintro e w3 ⟨g3, rfl, hr3, hg3, hb3⟩
  go_wp2_with fail
  refine (rNumber_any g3 _ false 999 w3 hr3).mono ?_
  rintro e w4 ⟨hs4, rfl, _⟩
  rw [show Wr.numR [253, 0, 252] false 999 = (([253, 0, 252], true), 0, 140) from by decide +kernel]
  have hL24 : Later w2 w4 := later_of_same (((Later.refl w2).alloc _).call hb3) (by simp at hg3; omega) hs4
  have hw4 := hw2.later hL24
  have hL4 := hL2.step hL24
  clear hw2 hL2 hL24 hs4 hb3 hr3 hg3
  go_wp2_with fail
  refine (read_any _ 1 1 [5] _ rfl (by omega) (Rd.lit_at rfl rfl)).mono ?_
  rintro e w3 ⟨g3, rfl, hr3, hg3, hb3⟩
  go_wp2_with fail
  refine (rNumber_any g3 _ false 4 w3 hr3).mono ?_
  rintro e w5 ⟨hs4, rfl, _⟩
  rw [show Wr.numR [5] false 4 = (([5], true), 0, 140) from by decide +kernel]
  have hL24 : Later w4 w5 := later_of_same (((Later.refl w4).alloc _).call hb3) (by simp at hg3; omega) hs4
  have hw5 := hw4.later hL24
  have hL5 := hL4.step hL24
  clear hw4 hL4 hL24 hs4 hb3 hr3 hg3
  go_wp2_with fail
  refine (read_any _ 2 2 [2, 104] _ rfl (by omega) (Rd.lit_at rfl rfl)).mono ?_
  rintro e w3 ⟨g3, rfl, hr3, hg3, hb3⟩
  go_wp2_with fail
  refine (text_any g3 _ false 9 w3 hr3).mono ?_
  rintro e w6 ⟨hs4, rfl, _⟩
  rw [show Wr.textR [2, 104] false 9 = (([2, 104], true), [], 140) from by decide +kernel]
  have hL24 : Later w5 w6 := later_of_same (((Later.refl w5).alloc _).call hb3) (by simp at hg3; omega) hs4
  have hw6 := hw5.later hL24
  have hL6 := hL5.step hL24
  clear hw5 hL5 hL24 hs4 hb3 hr3 hg3
  go_wp2_with fail
  refine (split_any none 0 0 [] _ rfl (by omega) (by omega) (Rd.nil _ _)).mono ?_
  rintro e w7 ⟨v7, rfl, hown7, hb7⟩
  rw [show Wr.splitR [] = ([], 0, 0) from by decide +kernel]
  obtain ⟨A7, n7, c7, rfl⟩ := hown7.shape
  have hw7 := hw6.later hb7
  have hL7 := hL6.call hb7
  clear hw6 hL6 hb7 hown7
  go_wp2_with fail
  refine (split_any _ 1 1 [3] _ rfl (by omega) (by omega) (Rd.lit_at rfl rfl)).mono ?_
  rintro e w8 ⟨v8, rfl, hown8, hb8⟩
  rw [show Wr.splitR [3] = ([], 0, 141) from by decide +kernel]
  obtain ⟨A8, n8, c8, rfl⟩ := hown8.shape
  have hL78 := ((Later.refl w7).alloc _).call hb8
  have hw8 := hw7.later hL78
  have hL8 := hL7.step hL78
  clear hw7 hL7 hb8 hown8 hL78
  go_wp2_with fail
  refine (split_any _ 1 1 [5] _ rfl (by omega) (by omega) (Rd.lit_at rfl rfl)).mono ?_
  rintro e w9 ⟨v9, rfl, hown9, hb9⟩
  rw [show Wr.splitR [5] = ([], 0, 0) from by decide +kernel]
  obtain ⟨A9, n9, c9, rfl⟩ := hown9.shape
  have hL78 := ((Later.refl w8).alloc _).call hb9
  have hw9 := hw8.later hL78
  have hL9 := hL8.step hL78
  clear hw8 hL8 hb9 hown9 hL78
  have hall := all_any g r _ w9 (by simp) hw9
  go_wp2_with (first
    | (go_at_call 13; refine (num_any _ _ (by omega)).mono ?_; rintro e w' ⟨rfl, rfl⟩)
    | (go_at_call 14; refine hall.mono ?_; clear hall; rintro e w10 ⟨v10, rfl, hown10, hb10⟩; obtain ⟨A10, c10, rfl, hc10, _, hrd10⟩ := hown10.slice; have hcv : Sem.run Try.prog (convert 22 9 (.slice A10 9 c10)) w10 = .ok (.string ⟨#[252, 253, 0, 253, 254, 0, 1, 0, 0]⟩) w10 := run_string_rd (P := Try.prog) w10 22 9 5 A10 9 c10 [252, 253, 0, 253, 254, 0, 1, 0, 0] Try.underlying22 Try.underlying5 Try.underlying9 rfl hrd10)
    | fail)
  go_ret
  exact ⟨rfl, hL9.step hb10⟩
end Go.Proofs.Ytmipaacobioakaa
