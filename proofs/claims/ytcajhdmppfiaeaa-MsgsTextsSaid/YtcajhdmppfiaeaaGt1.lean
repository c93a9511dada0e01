/- Walks, msgs: the law of texts (a seat of its own). -/
import Derived.Test.YtcajhdmppfiaeaaGk24
set_option linter.unusedVariables false
set_option linter.unusedSimpArgs false
namespace Go.Proofs.Ytcajhdmppfiaeaa
open Go.RowKit Ms
def textsC : Array Value := #[.string (kName 0), .string (kName 1), .string (kName 2), .string (kName 3), .string (kName 4), .string (kName 5), .string (kName 6), .string (kName 7), .string (kName 8), .string (kName 9), .string (kName 10), .string (kName 11), .string (kName 12), .string (kName 13), .string (kName 14)]
abbrev noTexts : Array Value := Array.replicate 15 (.string ⟨#[]⟩)
theorem infoTexts : (Try.prog.info? 25).map (·.size) = some 15 := by kernel_rfl
theorem allocTexts (w : World) : (Instr.alloc 25 true (.tuple #[])).run Try.prog w = .ok (.pointer (some ⟨w.heap.size, 0, none⟩)) (w.alloc (.cells noTexts 25)) := by kernel_rfl
theorem textsC_get (k : Nat) (h : k < 15) : textsC[k]? = some (.string (kName k)) := by
  rcases k with _ | _ | _ | _ | _ | _ | _ | _ | _ | _ | _ | _ | _ | _ | _ | k
  all_goals first | rfl | omega
theorem newTexts (w : World) : ∃ w', (Instr.storeAt 25 (.pointer (some ⟨w.heap.size, 0, none⟩)) (.agg textsC)).run Try.prog (w.alloc (.cells noTexts 25)) = .ok () w' ∧ Row w' w.heap.size 25 textsC ∧ Later w w' := by
  have hr := Row.new w 25 noTexts
  refine ⟨_, run_store_row hr textsC (by rw [show textsC.size = 15 from rfl]; exact infoTexts) (by decide) (by simp [textsC, Value.oneCell']), ?_, ?_⟩
  · have hr2 := row_setCells textsC.toList 0 _ _ hr
    rwa [setFrom_whole _ _ (by rfl), Array.toArray_toList] at hr2
  · exact Below.grown ((Later.refl w).alloc _) (grown_setCells _ _ _) (by simp only [World.size_alloc]; omega) (fun j e => by cases e; exact Nat.le_refl _)
theorem texts_any (w : World) : Calls Try.prog 5 #[] w fun e w' => e = .returned (.agg textsC) ∧ Later w w' := by
  have hbd : ∀ w : World, (Instr.build 25 #[(0, .string (kName 0)), (1, .string (kName 1)), (2, .string (kName 2)), (3, .string (kName 3)), (4, .string (kName 4)), (5, .string (kName 5)), (6, .string (kName 6)), (7, .string (kName 7)), (8, .string (kName 8)), (9, .string (kName 9)), (10, .string (kName 10)), (11, .string (kName 11)), (12, .string (kName 12)), (13, .string (kName 13)), (14, .string (kName 14))]).run Try.prog w = .ok (.agg textsC) w := fun w => by kernel_rfl
  obtain ⟨w', hst, hrow, hL⟩ := newTexts w
  go_enter Try.func5, Try.ntmps5
  go_wp2_with (first
    | (with_reducible refine wpList_alloc rfl 25 rfl (allocTexts _) ?_)
    | (guard_target =~ wpList _ _ _ (_ :: _) _ _; refine wpList_build rfl 25 _ rfl #[(0, .string (kName 0)), (1, .string (kName 1)), (2, .string (kName 2)), (3, .string (kName 3)), (4, .string (kName 4)), (5, .string (kName 5)), (6, .string (kName 6)), (7, .string (kName 7)), (8, .string (kName 8)), (9, .string (kName 9)), (10, .string (kName 10)), (11, .string (kName 11)), (12, .string (kName 12)), (13, .string (kName 13)), (14, .string (kName 14))] (by simp only [List.map_toArray, List.map_cons, List.map_nil]; rfl) (hbd _) ?_)
    | (guard_target =~ wpList _ _ _ (_ :: _) _ _; refine wpList_store rfl 25 (.tmp 0) (.tmp 1) rfl (.pointer (some ⟨w.heap.size, 0, none⟩)) (.agg textsC) rfl rfl hst ?_)
    | fail)
  exact bodyPost_ret (results_cell1 rfl _ _ w.heap.size 25 textsC _ rfl hrow Try.underlying25 rfl infoTexts) rfl ⟨rfl, hL⟩
set_option maxRecDepth 100000 in
theorem msgsTexts_walk (k : Int) (wk : (Lit.int .i64 k).wf = true) (w : World) : Calls Try.prog 3 #[.int .i64 k] w fun e w' => e = .returned (.bool true) ∧ Below w.heap.size w w' := by
  refine Calls.post fun Φ HΦ => ?_
  have HM := Lib.hid (mtext_any k w)
  go_enter Try.func3, Try.ntmps3
  go_upto_region 2 with (first
    | (go_at_call 4; refine HM.out.mono ?_; rintro e w1 ⟨rfl, hL1⟩)
    | fail)
  clear HM
  go_upto_region 3 with (first
    | (go_at_call 5; refine (texts_any _).mono ?_; rintro e w2 ⟨rfl, hL2⟩; obtain ⟨w3, hst, hrow, hL3⟩ := newTexts w2)
    | (with_reducible refine wpList_alloc rfl 25 rfl (allocTexts _) ?_)
    | (guard_target =~ wpList _ _ _ (_ :: _) _ _; refine wpList_store rfl 25 (.tmp 5) (.tmp 11) rfl (.pointer (some ⟨w2.heap.size, 0, none⟩)) (.agg textsC) rfl rfl hst ?_)
    | fail)
  have hw3 : Later w w3 := Later.step (Later.step hL1 hL2) hL3
  obtain ⟨q, hq⟩ : ∃ q, q = w2.heap.size := ⟨_, rfl⟩
  rw [← hq] at hrow ⊢
  clear hst hL1 hL2 hL3 hq
  by_cases hk : 1 ≤ k ∧ k ≤ 14
  · obtain ⟨n, rfl⟩ : ∃ n : Nat, k = (n : Int) := ⟨k.toNat, by omega⟩
    have hn : 1 ≤ n ∧ n ≤ 14 := by omega
    have d1 : decide ((n : Int) < 1) = false := decide_eq_false (by omega)
    have d2 : decide ((14 : Int) < (n : Int)) = false := decide_eq_false (by omega)
    have d3 : decide (n < 1) = false := decide_eq_false (by omega)
    have d4 : decide (14 < n) = false := decide_eq_false (by omega)
    have hb : isKind (n : Int) = true := by unfold isKind; rw [decide_eq_true hk.1, decide_eq_true hk.2]; rfl
    rw [hb]
    have c1 : w3.cell? ⟨q, n, none⟩ = some (.string (kName n)) := (hrow.cell n).trans (textsC_get n (by omega))
    have h15 : (n : Int) < 15 := by omega
    have h15' : n < 15 := by omega
    have h0 : (0 : Int) ≤ (n : Int) := by omega
    generalize kName (n : Int) = nm at *
    clear hb hk hrow
    go_wp2_with (first
      | (go_at_call 6; refine (works_yes _).mono ?_; rintro e wv ⟨rfl, hLv⟩)
      | fail)
    exact HΦ.out _ _ ⟨rfl, Later.step hw3 hLv⟩
  · have hb : isKind k = false := by
      unfold isKind
      by_cases h1 : 1 ≤ k
      · rw [decide_eq_false (show ¬ k ≤ 14 by omega), Bool.and_false]
      · rw [decide_eq_false h1, Bool.false_and]
    have hnk := (no_kind hb).1
    rw [hb, hnk]
    clear hrow
    by_cases h1 : k < 1
    · have d1 : decide (k < 1) = true := decide_eq_true h1
      clear hk hb hnk
      go_wp2_with (first
        | (go_at_call 6; refine (works_yes _).mono ?_; rintro e wv ⟨rfl, hLv⟩)
        | fail)
      exact HΦ.out _ _ ⟨rfl, Later.step hw3 hLv⟩
    · have d1 : decide (k < 1) = false := decide_eq_false h1
      have d2 : decide (14 < k) = true := decide_eq_true (by omega)
      clear hk hb hnk
      go_wp2_with (first
        | (go_at_call 6; refine (works_yes _).mono ?_; rintro e wv ⟨rfl, hLv⟩)
        | fail)
      exact HΦ.out _ _ ⟨rfl, Later.step hw3 hLv⟩
end Go.Proofs.Ytcajhdmppfiaeaa
