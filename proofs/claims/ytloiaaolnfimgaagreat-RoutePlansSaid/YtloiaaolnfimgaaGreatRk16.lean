/- Walks, route: the document's Plan. -/
import Derived.Test.YtloiaaolnfimgaaGreatRk16t
set_option linter.unusedVariables false
set_option linter.unusedSimpArgs false
namespace Go.Proofs.YtloiaaolnfimgaaGreat
open Go.RowKit Rt
set_option maxRecDepth 100000 in
set_option maxHeartbeats 8000000 in
theorem refPlan_any (a x : Int) (A : Option Addr) (n c : Nat) (l : List Rt.Edge) (w : World) (hl : ∀ e ∈ l, e.wf) (hn : l.length = n) (hnm : n ≤ 1000000) (hA : Recs 67 w A (l.map edgeL)) :
    Calls Tryz.prog 15 #[.int .i64 a, .int .i64 x, .slice A n c] w fun e w' => (∃ v, e = .returned (.tuple #[.agg (hopC (plan a x l).1), v, .int .i64 (plan a x l).2.2]) ∧ ∃ B c', v = .slice B (plan a x l).2.1.length c' ∧ Recs 66 w' B ((plan a x l).2.1.map hopL)) ∧ Below w.heap.size w w' := by
  refine Calls.post fun Φ HΦ => ?_
  have HL := Lib.hid hl
  have HN := Lib.hid hn
  have kq := Row.new w 27 (hopC noHop)
  have L0 : Later w (w.alloc (.cells (hopC noHop) 27)) := below_new w _
  have hA1 := hA.later L0
  generalize hw1 : w.alloc (.cells (hopC noHop) 27) = w1 at kq L0 hA1
  clear hl hn hA
  go_enter Tryz.func15, Tryz.ntmps15
  go_upto_region 1 with (first
    | (with_reducible refine wpList_alloc rfl 27 rfl (allocHop _) ?_)
    | fail)
  clear hw1
  obtain ⟨q, hq⟩ : ∃ q, q = w.heap.size := ⟨_, rfl⟩
  rw [← hq] at kq ⊢
  have hqw : w.heap.size ≤ q := by omega
  clear hq
  have hrt := fun W => right5_any a W
  have hbad : (decide ((n : Int) < 1)) = true ∨ (decide (6 < (n : Int))) = true ∨ (decide (a < 1)) = true ∨ ((!bad maxAmt a)) = false ∨ (decide (x < 1)) = true ∨ (decide (2147483647 < x)) = true → plan a x l = (noHop, [], 2) := fun h => by
    have : okPlan a x l = false := by
      unfold okPlan paid
      rw [HN.out]
      unfold bad maxAmt at h
      simp only [Bool.not_eq_false, Bool.not_eq_true, Bool.not_eq_true', Bool.not_eq_false', Bool.or_eq_true, decide_eq_true_eq] at h
      by_cases h1 : 1 ≤ n
      · by_cases h2 : n ≤ 6
        · have h3 : (decide (1 ≤ a) && decide (a ≤ 1125899906842624) && (decide (1 ≤ x) && decide (x ≤ 2147483647))) = false := by
            rw [Bool.eq_false_iff]
            intro h5
            simp only [Bool.and_eq_true, decide_eq_true_eq] at h5
            omega
          rw [h3]; simp
        · rw [decide_eq_false h2]; simp
      · rw [decide_eq_false h1]; simp
    unfold plan
    rw [this]
    rfl
  have HBAD := Lib.hid hbad
  clear hbad
  obtain ⟨b1, hb1⟩ : ∃ b, decide ((n : Int) < 1) = b := ⟨_, rfl⟩
  obtain ⟨b2, hb2⟩ : ∃ b, decide (6 < (n : Int)) = b := ⟨_, rfl⟩
  obtain ⟨b3, hb3⟩ : ∃ b, decide (a < 1) = b := ⟨_, rfl⟩
  obtain ⟨b4, hb4⟩ : ∃ b, (!bad maxAmt a) = b := ⟨_, rfl⟩
  obtain ⟨b5, hb5⟩ : ∃ b, decide (x < 1) = b := ⟨_, rfl⟩
  obtain ⟨b6, hb6⟩ : ∃ b, decide (2147483647 < x) = b := ⟨_, rfl⟩
  have HBX : Hid (decide ((n : Int) < 1) = b1 ∧ decide (6 < (n : Int)) = b2 ∧ decide (a < 1) = b3 ∧ (!bad maxAmt a) = b4 ∧ decide (x < 1) = b5 ∧ decide (2147483647 < x) = b6) := Lib.hid ⟨hb1, hb2, hb3, hb4, hb5, hb6⟩
  rw [hb4] at hrt
  by_cases hc1 : b1 = true
  · subst hc1
    have HNO := HBAD.out (.inl hb1)
    refine wp_region_seqL [Pr.eq (.slice A n c), Pr.eq (.int .i64 (n : Int)), Pr.eq (.bool true), Pr.eq (.bool true), Pr.eq (undef), Pr.eq (undef), Pr.eq (undef), Pr.eq (.bool true), Pr.eq (.bool true), Pr.eq (undef), Pr.eq (undef), Pr.eq (.bool true), Pr.eq (.bool true), Pr.eq (undef), Pr.eq (undef), Pr.eq (undef), Pr.eq (.bool true), Pr.eq (.bool true), Pr.eq (undef), Pr.eq (undef), Pr.eq (.bool true), Pr.eq (.bool true), Pr.eq (undef), Pr.eq (undef), Pr.eq (.bool true)] (by kernel_rfl) (by kernel_rfl) (by kernel_rfl) ⟨?_, ?_, ?_, ?_, ?_, ?_, ?_, ?_, ?_, ?_, ?_, ?_, ?_, ?_, ?_, ?_, ?_, ?_, ?_, ?_, ?_, ?_, ?_, ?_, ?_, trivial⟩ ?_
    · exact fun ac W hL he => stepOk_want rfl (op_move rfl (he.keep (.tmp 2) (by kernel_rfl)))
    · exact fun ac W hL he => stepOk_want rfl (op_len Tryz.underlying40 rfl (he.get 0 19 (by kernel_rfl) rfl) rfl)
    · exact fun ac W hL he => stepOk_want rfl (op_binOp rfl (he.get 1 20 (by kernel_rfl) rfl) rfl (eqg_any rfl) (cmpL hb1) rfl)
    · exact fun ac W hL he => stepOk_want rfl (op_move rfl (he.get 2 21 (by kernel_rfl) rfl))
    · exact fun ac W hL he => stepOk_no rfl rfl (he.get 3 22 (by kernel_rfl) rfl) (by decide) rfl
    · exact fun ac W hL he => stepOk_no rfl rfl (he.get 3 22 (by kernel_rfl) rfl) (by decide) rfl
    · exact fun ac W hL he => stepOk_no rfl rfl (he.get 3 22 (by kernel_rfl) rfl) (by decide) rfl
    · exact fun ac W hL he => stepOk_want rfl (op_pick (b := true) rfl (he.get 3 22 (by kernel_rfl) rfl) rfl)
    · exact fun ac W hL he => stepOk_want rfl (op_move rfl (he.get 7 26 (by kernel_rfl) rfl))
    · exact fun ac W hL he => stepOk_no rfl rfl (he.get 8 27 (by kernel_rfl) rfl) (by decide) rfl
    · exact fun ac W hL he => stepOk_no rfl rfl (he.get 8 27 (by kernel_rfl) rfl) (by decide) rfl
    · exact fun ac W hL he => stepOk_want rfl (op_pick (b := true) rfl (he.get 8 27 (by kernel_rfl) rfl) rfl)
    · exact fun ac W hL he => stepOk_want rfl (op_move rfl (he.get 11 30 (by kernel_rfl) rfl))
    · exact fun ac W hL he => stepOk_no rfl rfl (he.get 12 31 (by kernel_rfl) rfl) (by decide) rfl
    · exact fun ac W hL he => stepOk_no rfl rfl (he.get 12 31 (by kernel_rfl) rfl) (by decide) rfl
    · exact fun ac W hL he => stepOk_no rfl rfl (he.get 12 31 (by kernel_rfl) rfl) (by decide) rfl
    · exact fun ac W hL he => stepOk_want rfl (op_pick (b := true) rfl (he.get 12 31 (by kernel_rfl) rfl) rfl)
    · exact fun ac W hL he => stepOk_want rfl (op_move rfl (he.get 16 35 (by kernel_rfl) rfl))
    · exact fun ac W hL he => stepOk_no rfl rfl (he.get 17 36 (by kernel_rfl) rfl) (by decide) rfl
    · exact fun ac W hL he => stepOk_no rfl rfl (he.get 17 36 (by kernel_rfl) rfl) (by decide) rfl
    · exact fun ac W hL he => stepOk_want rfl (op_pick (b := true) rfl (he.get 17 36 (by kernel_rfl) rfl) rfl)
    · exact fun ac W hL he => stepOk_want rfl (op_move rfl (he.get 20 39 (by kernel_rfl) rfl))
    · exact fun ac W hL he => stepOk_no rfl rfl (he.get 21 40 (by kernel_rfl) rfl) (by decide) rfl
    · exact fun ac W hL he => stepOk_no rfl rfl (he.get 21 40 (by kernel_rfl) rfl) (by decide) rfl
    · exact fun ac W hL he => stepOk_want rfl (op_pick (b := true) rfl (he.get 21 40 (by kernel_rfl) rfl) rfl)
    intro xs W hL hx
    have v24 : xs 24 = .bool true := hx 24 (by decide)
    simp only [putL, Nat.reduceAdd, Act.put, List.setIfInBounds_toArray, List.set_cons_succ, List.set_cons_zero]
    rw [v24]
    clear hx v24
    obtain ⟨w2, hst, kR, gR⟩ := storeHop noHop_wf noHop_wf (kq.later hL)
    have LR : Below w.heap.size w w2 := Below.grown (L0.step hL) gR (Later.size (L0.step hL)) (fun j e => by cases e; exact hqw)
    clear gR hrt
    go_wp2_with (first
      | (guard_target =~ wpList _ _ _ (_ :: _) _ _; refine wpList_build rfl 27 _ rfl #[] rfl (buildHop0 _) ?_)
      | (guard_target =~ wpList _ _ _ (_ :: _) _ _; refine wpList_store rfl 27 (.tmp 6) (.tmp 44) rfl (.pointer (some ⟨q, 0, none⟩)) (.agg (hopC noHop)) rfl rfl hst ?_)
      | fail)
    exact ⟨rfl, _, results_ctt rfl _ _ q 27 (hopC noHop) _ _ _ rfl rfl rfl kR Tryz.underlying27 rfl (by rw [hopC_size noHop_wf]; exact infoHop), HΦ.out _ _ ⟨⟨.slice none 0 0, by rw [HNO]; rfl, none, 0, by rw [HNO]; rfl, by rw [HNO]; exact Recs.nil _ _ _⟩, LR⟩⟩
  have hc1' : b1 = false := by revert hc1; cases b1 <;> simp
  clear hc1
  subst hc1'
  by_cases hc2 : b2 = true
  · subst hc2
    have HNO := HBAD.out (.inr (.inl hb2))
    refine wp_region_seqL [Pr.eq (.slice A n c), Pr.eq (.int .i64 (n : Int)), Pr.eq (.bool false), Pr.eq (.bool false), Pr.eq (.slice A n c), Pr.eq (.int .i64 (n : Int)), Pr.eq (.bool true), Pr.eq (.bool true), Pr.eq (.bool true), Pr.eq (undef), Pr.eq (undef), Pr.eq (.bool true), Pr.eq (.bool true), Pr.eq (undef), Pr.eq (undef), Pr.eq (undef), Pr.eq (.bool true), Pr.eq (.bool true), Pr.eq (undef), Pr.eq (undef), Pr.eq (.bool true), Pr.eq (.bool true), Pr.eq (undef), Pr.eq (undef), Pr.eq (.bool true)] (by kernel_rfl) (by kernel_rfl) (by kernel_rfl) ⟨?_, ?_, ?_, ?_, ?_, ?_, ?_, ?_, ?_, ?_, ?_, ?_, ?_, ?_, ?_, ?_, ?_, ?_, ?_, ?_, ?_, ?_, ?_, ?_, ?_, trivial⟩ ?_
    · exact fun ac W hL he => stepOk_want rfl (op_move rfl (he.keep (.tmp 2) (by kernel_rfl)))
    · exact fun ac W hL he => stepOk_want rfl (op_len Tryz.underlying40 rfl (he.get 0 19 (by kernel_rfl) rfl) rfl)
    · exact fun ac W hL he => stepOk_want rfl (op_binOp rfl (he.get 1 20 (by kernel_rfl) rfl) rfl (eqg_any rfl) (cmpL hb1) rfl)
    · exact fun ac W hL he => stepOk_want rfl (op_move rfl (he.get 2 21 (by kernel_rfl) rfl))
    · exact fun ac W hL he => stepOk_yes (j := 3) (t := 22) (b := false) rfl rfl (he.get 3 22 (by kernel_rfl) rfl) (op_move rfl (he.keep (.tmp 2) (by kernel_rfl)))
    · exact fun ac W hL he => stepOk_yes (j := 3) (t := 22) (b := false) rfl rfl (he.get 3 22 (by kernel_rfl) rfl) (op_len Tryz.underlying40 rfl (he.get 4 23 (by kernel_rfl) rfl) rfl)
    · exact fun ac W hL he => stepOk_yes (j := 3) (t := 22) (b := false) rfl rfl (he.get 3 22 (by kernel_rfl) rfl) (op_binOp rfl (he.get 5 24 (by kernel_rfl) rfl) rfl (eqg_any rfl) (cmpG hb2) rfl)
    · exact fun ac W hL he => stepOk_want rfl (op_pick (b := false) rfl (he.get 3 22 (by kernel_rfl) rfl) (he.get 6 25 (by kernel_rfl) rfl))
    · exact fun ac W hL he => stepOk_want rfl (op_move rfl (he.get 7 26 (by kernel_rfl) rfl))
    · exact fun ac W hL he => stepOk_no rfl rfl (he.get 8 27 (by kernel_rfl) rfl) (by decide) rfl
    · exact fun ac W hL he => stepOk_no rfl rfl (he.get 8 27 (by kernel_rfl) rfl) (by decide) rfl
    · exact fun ac W hL he => stepOk_want rfl (op_pick (b := true) rfl (he.get 8 27 (by kernel_rfl) rfl) rfl)
    · exact fun ac W hL he => stepOk_want rfl (op_move rfl (he.get 11 30 (by kernel_rfl) rfl))
    · exact fun ac W hL he => stepOk_no rfl rfl (he.get 12 31 (by kernel_rfl) rfl) (by decide) rfl
    · exact fun ac W hL he => stepOk_no rfl rfl (he.get 12 31 (by kernel_rfl) rfl) (by decide) rfl
    · exact fun ac W hL he => stepOk_no rfl rfl (he.get 12 31 (by kernel_rfl) rfl) (by decide) rfl
    · exact fun ac W hL he => stepOk_want rfl (op_pick (b := true) rfl (he.get 12 31 (by kernel_rfl) rfl) rfl)
    · exact fun ac W hL he => stepOk_want rfl (op_move rfl (he.get 16 35 (by kernel_rfl) rfl))
    · exact fun ac W hL he => stepOk_no rfl rfl (he.get 17 36 (by kernel_rfl) rfl) (by decide) rfl
    · exact fun ac W hL he => stepOk_no rfl rfl (he.get 17 36 (by kernel_rfl) rfl) (by decide) rfl
    · exact fun ac W hL he => stepOk_want rfl (op_pick (b := true) rfl (he.get 17 36 (by kernel_rfl) rfl) rfl)
    · exact fun ac W hL he => stepOk_want rfl (op_move rfl (he.get 20 39 (by kernel_rfl) rfl))
    · exact fun ac W hL he => stepOk_no rfl rfl (he.get 21 40 (by kernel_rfl) rfl) (by decide) rfl
    · exact fun ac W hL he => stepOk_no rfl rfl (he.get 21 40 (by kernel_rfl) rfl) (by decide) rfl
    · exact fun ac W hL he => stepOk_want rfl (op_pick (b := true) rfl (he.get 21 40 (by kernel_rfl) rfl) rfl)
    intro xs W hL hx
    have v24 : xs 24 = .bool true := hx 24 (by decide)
    simp only [putL, Nat.reduceAdd, Act.put, List.setIfInBounds_toArray, List.set_cons_succ, List.set_cons_zero]
    rw [v24]
    clear hx v24
    obtain ⟨w2, hst, kR, gR⟩ := storeHop noHop_wf noHop_wf (kq.later hL)
    have LR : Below w.heap.size w w2 := Below.grown (L0.step hL) gR (Later.size (L0.step hL)) (fun j e => by cases e; exact hqw)
    clear gR hrt
    go_wp2_with (first
      | (guard_target =~ wpList _ _ _ (_ :: _) _ _; refine wpList_build rfl 27 _ rfl #[] rfl (buildHop0 _) ?_)
      | (guard_target =~ wpList _ _ _ (_ :: _) _ _; refine wpList_store rfl 27 (.tmp 6) (.tmp 44) rfl (.pointer (some ⟨q, 0, none⟩)) (.agg (hopC noHop)) rfl rfl hst ?_)
      | fail)
    exact ⟨rfl, _, results_ctt rfl _ _ q 27 (hopC noHop) _ _ _ rfl rfl rfl kR Tryz.underlying27 rfl (by rw [hopC_size noHop_wf]; exact infoHop), HΦ.out _ _ ⟨⟨.slice none 0 0, by rw [HNO]; rfl, none, 0, by rw [HNO]; rfl, by rw [HNO]; exact Recs.nil _ _ _⟩, LR⟩⟩
  have hc2' : b2 = false := by revert hc2; cases b2 <;> simp
  clear hc2
  subst hc2'
  by_cases hc3 : b3 = true
  · subst hc3
    have HNO := HBAD.out (.inr (.inr (.inl hb3)))
    refine wp_region_seqL [Pr.eq (.slice A n c), Pr.eq (.int .i64 (n : Int)), Pr.eq (.bool false), Pr.eq (.bool false), Pr.eq (.slice A n c), Pr.eq (.int .i64 (n : Int)), Pr.eq (.bool false), Pr.eq (.bool false), Pr.eq (.bool false), Pr.eq (.int .i64 a), Pr.eq (.bool true), Pr.eq (.bool true), Pr.eq (.bool true), Pr.eq (undef), Pr.eq (undef), Pr.eq (undef), Pr.eq (.bool true), Pr.eq (.bool true), Pr.eq (undef), Pr.eq (undef), Pr.eq (.bool true), Pr.eq (.bool true), Pr.eq (undef), Pr.eq (undef), Pr.eq (.bool true)] (by kernel_rfl) (by kernel_rfl) (by kernel_rfl) ⟨?_, ?_, ?_, ?_, ?_, ?_, ?_, ?_, ?_, ?_, ?_, ?_, ?_, ?_, ?_, ?_, ?_, ?_, ?_, ?_, ?_, ?_, ?_, ?_, ?_, trivial⟩ ?_
    · exact fun ac W hL he => stepOk_want rfl (op_move rfl (he.keep (.tmp 2) (by kernel_rfl)))
    · exact fun ac W hL he => stepOk_want rfl (op_len Tryz.underlying40 rfl (he.get 0 19 (by kernel_rfl) rfl) rfl)
    · exact fun ac W hL he => stepOk_want rfl (op_binOp rfl (he.get 1 20 (by kernel_rfl) rfl) rfl (eqg_any rfl) (cmpL hb1) rfl)
    · exact fun ac W hL he => stepOk_want rfl (op_move rfl (he.get 2 21 (by kernel_rfl) rfl))
    · exact fun ac W hL he => stepOk_yes (j := 3) (t := 22) (b := false) rfl rfl (he.get 3 22 (by kernel_rfl) rfl) (op_move rfl (he.keep (.tmp 2) (by kernel_rfl)))
    · exact fun ac W hL he => stepOk_yes (j := 3) (t := 22) (b := false) rfl rfl (he.get 3 22 (by kernel_rfl) rfl) (op_len Tryz.underlying40 rfl (he.get 4 23 (by kernel_rfl) rfl) rfl)
    · exact fun ac W hL he => stepOk_yes (j := 3) (t := 22) (b := false) rfl rfl (he.get 3 22 (by kernel_rfl) rfl) (op_binOp rfl (he.get 5 24 (by kernel_rfl) rfl) rfl (eqg_any rfl) (cmpG hb2) rfl)
    · exact fun ac W hL he => stepOk_want rfl (op_pick (b := false) rfl (he.get 3 22 (by kernel_rfl) rfl) (he.get 6 25 (by kernel_rfl) rfl))
    · exact fun ac W hL he => stepOk_want rfl (op_move rfl (he.get 7 26 (by kernel_rfl) rfl))
    · exact fun ac W hL he => stepOk_yes (j := 8) (t := 27) (b := false) rfl rfl (he.get 8 27 (by kernel_rfl) rfl) (op_move rfl (he.keep (.tmp 0) (by kernel_rfl)))
    · exact fun ac W hL he => stepOk_yes (j := 8) (t := 27) (b := false) rfl rfl (he.get 8 27 (by kernel_rfl) rfl) (op_binOp rfl (he.get 9 28 (by kernel_rfl) rfl) rfl (eqg_any rfl) (cmpL hb3) rfl)
    · exact fun ac W hL he => stepOk_want rfl (op_pick (b := false) rfl (he.get 8 27 (by kernel_rfl) rfl) (he.get 10 29 (by kernel_rfl) rfl))
    · exact fun ac W hL he => stepOk_want rfl (op_move rfl (he.get 11 30 (by kernel_rfl) rfl))
    · exact fun ac W hL he => stepOk_no rfl rfl (he.get 12 31 (by kernel_rfl) rfl) (by decide) rfl
    · exact fun ac W hL he => stepOk_no rfl rfl (he.get 12 31 (by kernel_rfl) rfl) (by decide) rfl
    · exact fun ac W hL he => stepOk_no rfl rfl (he.get 12 31 (by kernel_rfl) rfl) (by decide) rfl
    · exact fun ac W hL he => stepOk_want rfl (op_pick (b := true) rfl (he.get 12 31 (by kernel_rfl) rfl) rfl)
    · exact fun ac W hL he => stepOk_want rfl (op_move rfl (he.get 16 35 (by kernel_rfl) rfl))
    · exact fun ac W hL he => stepOk_no rfl rfl (he.get 17 36 (by kernel_rfl) rfl) (by decide) rfl
    · exact fun ac W hL he => stepOk_no rfl rfl (he.get 17 36 (by kernel_rfl) rfl) (by decide) rfl
    · exact fun ac W hL he => stepOk_want rfl (op_pick (b := true) rfl (he.get 17 36 (by kernel_rfl) rfl) rfl)
    · exact fun ac W hL he => stepOk_want rfl (op_move rfl (he.get 20 39 (by kernel_rfl) rfl))
    · exact fun ac W hL he => stepOk_no rfl rfl (he.get 21 40 (by kernel_rfl) rfl) (by decide) rfl
    · exact fun ac W hL he => stepOk_no rfl rfl (he.get 21 40 (by kernel_rfl) rfl) (by decide) rfl
    · exact fun ac W hL he => stepOk_want rfl (op_pick (b := true) rfl (he.get 21 40 (by kernel_rfl) rfl) rfl)
    intro xs W hL hx
    have v24 : xs 24 = .bool true := hx 24 (by decide)
    simp only [putL, Nat.reduceAdd, Act.put, List.setIfInBounds_toArray, List.set_cons_succ, List.set_cons_zero]
    rw [v24]
    clear hx v24
    obtain ⟨w2, hst, kR, gR⟩ := storeHop noHop_wf noHop_wf (kq.later hL)
    have LR : Below w.heap.size w w2 := Below.grown (L0.step hL) gR (Later.size (L0.step hL)) (fun j e => by cases e; exact hqw)
    clear gR hrt
    go_wp2_with (first
      | (guard_target =~ wpList _ _ _ (_ :: _) _ _; refine wpList_build rfl 27 _ rfl #[] rfl (buildHop0 _) ?_)
      | (guard_target =~ wpList _ _ _ (_ :: _) _ _; refine wpList_store rfl 27 (.tmp 6) (.tmp 44) rfl (.pointer (some ⟨q, 0, none⟩)) (.agg (hopC noHop)) rfl rfl hst ?_)
      | fail)
    exact ⟨rfl, _, results_ctt rfl _ _ q 27 (hopC noHop) _ _ _ rfl rfl rfl kR Tryz.underlying27 rfl (by rw [hopC_size noHop_wf]; exact infoHop), HΦ.out _ _ ⟨⟨.slice none 0 0, by rw [HNO]; rfl, none, 0, by rw [HNO]; rfl, by rw [HNO]; exact Recs.nil _ _ _⟩, LR⟩⟩
  have hc3' : b3 = false := by revert hc3; cases b3 <;> simp
  clear hc3
  subst hc3'
  by_cases hc4 : b4 = false
  · subst hc4
    have HNO := HBAD.out (.inr (.inr (.inr (.inl hb4))))
    refine wp_region_seqL [Pr.eq (.slice A n c), Pr.eq (.int .i64 (n : Int)), Pr.eq (.bool false), Pr.eq (.bool false), Pr.eq (.slice A n c), Pr.eq (.int .i64 (n : Int)), Pr.eq (.bool false), Pr.eq (.bool false), Pr.eq (.bool false), Pr.eq (.int .i64 a), Pr.eq (.bool false), Pr.eq (.bool false), Pr.eq (.bool false), Pr.eq (.int .i64 a), Pr.eq (.bool false), Pr.eq (.bool true), Pr.eq (.bool true), Pr.eq (.bool true), Pr.eq (undef), Pr.eq (undef), Pr.eq (.bool true), Pr.eq (.bool true), Pr.eq (undef), Pr.eq (undef), Pr.eq (.bool true)] (by kernel_rfl) (by kernel_rfl) (by kernel_rfl) ⟨?_, ?_, ?_, ?_, ?_, ?_, ?_, ?_, ?_, ?_, ?_, ?_, ?_, ?_, ?_, ?_, ?_, ?_, ?_, ?_, ?_, ?_, ?_, ?_, ?_, trivial⟩ ?_
    · exact fun ac W hL he => stepOk_want rfl (op_move rfl (he.keep (.tmp 2) (by kernel_rfl)))
    · exact fun ac W hL he => stepOk_want rfl (op_len Tryz.underlying40 rfl (he.get 0 19 (by kernel_rfl) rfl) rfl)
    · exact fun ac W hL he => stepOk_want rfl (op_binOp rfl (he.get 1 20 (by kernel_rfl) rfl) rfl (eqg_any rfl) (cmpL hb1) rfl)
    · exact fun ac W hL he => stepOk_want rfl (op_move rfl (he.get 2 21 (by kernel_rfl) rfl))
    · exact fun ac W hL he => stepOk_yes (j := 3) (t := 22) (b := false) rfl rfl (he.get 3 22 (by kernel_rfl) rfl) (op_move rfl (he.keep (.tmp 2) (by kernel_rfl)))
    · exact fun ac W hL he => stepOk_yes (j := 3) (t := 22) (b := false) rfl rfl (he.get 3 22 (by kernel_rfl) rfl) (op_len Tryz.underlying40 rfl (he.get 4 23 (by kernel_rfl) rfl) rfl)
    · exact fun ac W hL he => stepOk_yes (j := 3) (t := 22) (b := false) rfl rfl (he.get 3 22 (by kernel_rfl) rfl) (op_binOp rfl (he.get 5 24 (by kernel_rfl) rfl) rfl (eqg_any rfl) (cmpG hb2) rfl)
    · exact fun ac W hL he => stepOk_want rfl (op_pick (b := false) rfl (he.get 3 22 (by kernel_rfl) rfl) (he.get 6 25 (by kernel_rfl) rfl))
    · exact fun ac W hL he => stepOk_want rfl (op_move rfl (he.get 7 26 (by kernel_rfl) rfl))
    · exact fun ac W hL he => stepOk_yes (j := 8) (t := 27) (b := false) rfl rfl (he.get 8 27 (by kernel_rfl) rfl) (op_move rfl (he.keep (.tmp 0) (by kernel_rfl)))
    · exact fun ac W hL he => stepOk_yes (j := 8) (t := 27) (b := false) rfl rfl (he.get 8 27 (by kernel_rfl) rfl) (op_binOp rfl (he.get 9 28 (by kernel_rfl) rfl) rfl (eqg_any rfl) (cmpL hb3) rfl)
    · exact fun ac W hL he => stepOk_want rfl (op_pick (b := false) rfl (he.get 8 27 (by kernel_rfl) rfl) (he.get 10 29 (by kernel_rfl) rfl))
    · exact fun ac W hL he => stepOk_want rfl (op_move rfl (he.get 11 30 (by kernel_rfl) rfl))
    · exact fun ac W hL he => stepOk_yes (j := 12) (t := 31) (b := false) rfl rfl (he.get 12 31 (by kernel_rfl) rfl) (op_move rfl (he.keep (.tmp 0) (by kernel_rfl)))
    · intro ac W hL he; refine stepOk_yes (j := 12) (t := 31) (b := false) rfl rfl (he.get 12 31 (by kernel_rfl) rfl) ?_; have e0 : ac.eval (.tmp 32) = .int .i64 a := (he.get 13 32 (by kernel_rfl) rfl); exact op_callF (vs := #[.int .i64 a]) rfl (by simp only [List.map_toArray, List.map_cons, List.map_nil, e0]) (enters_of Tryz.func50 (by kernel_rfl) rfl) (((hrt W)).mono fun e W' ⟨he', hw'⟩ => ⟨_, he', hw' ▸ Later.refl _, rfl⟩)
    · exact fun ac W hL he => stepOk_yes (j := 12) (t := 31) (b := false) rfl rfl (he.get 12 31 (by kernel_rfl) rfl) (op_not rfl (he.get 14 33 (by kernel_rfl) rfl) rfl)
    · exact fun ac W hL he => stepOk_want rfl (op_pick (b := false) rfl (he.get 12 31 (by kernel_rfl) rfl) (he.get 15 34 (by kernel_rfl) rfl))
    · exact fun ac W hL he => stepOk_want rfl (op_move rfl (he.get 16 35 (by kernel_rfl) rfl))
    · exact fun ac W hL he => stepOk_no rfl rfl (he.get 17 36 (by kernel_rfl) rfl) (by decide) rfl
    · exact fun ac W hL he => stepOk_no rfl rfl (he.get 17 36 (by kernel_rfl) rfl) (by decide) rfl
    · exact fun ac W hL he => stepOk_want rfl (op_pick (b := true) rfl (he.get 17 36 (by kernel_rfl) rfl) rfl)
    · exact fun ac W hL he => stepOk_want rfl (op_move rfl (he.get 20 39 (by kernel_rfl) rfl))
    · exact fun ac W hL he => stepOk_no rfl rfl (he.get 21 40 (by kernel_rfl) rfl) (by decide) rfl
    · exact fun ac W hL he => stepOk_no rfl rfl (he.get 21 40 (by kernel_rfl) rfl) (by decide) rfl
    · exact fun ac W hL he => stepOk_want rfl (op_pick (b := true) rfl (he.get 21 40 (by kernel_rfl) rfl) rfl)
    intro xs W hL hx
    have v24 : xs 24 = .bool true := hx 24 (by decide)
    simp only [putL, Nat.reduceAdd, Act.put, List.setIfInBounds_toArray, List.set_cons_succ, List.set_cons_zero]
    rw [v24]
    clear hx v24
    obtain ⟨w2, hst, kR, gR⟩ := storeHop noHop_wf noHop_wf (kq.later hL)
    have LR : Below w.heap.size w w2 := Below.grown (L0.step hL) gR (Later.size (L0.step hL)) (fun j e => by cases e; exact hqw)
    clear gR hrt
    go_wp2_with (first
      | (guard_target =~ wpList _ _ _ (_ :: _) _ _; refine wpList_build rfl 27 _ rfl #[] rfl (buildHop0 _) ?_)
      | (guard_target =~ wpList _ _ _ (_ :: _) _ _; refine wpList_store rfl 27 (.tmp 6) (.tmp 44) rfl (.pointer (some ⟨q, 0, none⟩)) (.agg (hopC noHop)) rfl rfl hst ?_)
      | fail)
    exact ⟨rfl, _, results_ctt rfl _ _ q 27 (hopC noHop) _ _ _ rfl rfl rfl kR Tryz.underlying27 rfl (by rw [hopC_size noHop_wf]; exact infoHop), HΦ.out _ _ ⟨⟨.slice none 0 0, by rw [HNO]; rfl, none, 0, by rw [HNO]; rfl, by rw [HNO]; exact Recs.nil _ _ _⟩, LR⟩⟩
  have hc4' : b4 = true := by revert hc4; cases b4 <;> simp
  clear hc4
  subst hc4'
  by_cases hc5 : b5 = true
  · subst hc5
    have HNO := HBAD.out (.inr (.inr (.inr (.inr (.inl hb5)))))
    refine wp_region_seqL [Pr.eq (.slice A n c), Pr.eq (.int .i64 (n : Int)), Pr.eq (.bool false), Pr.eq (.bool false), Pr.eq (.slice A n c), Pr.eq (.int .i64 (n : Int)), Pr.eq (.bool false), Pr.eq (.bool false), Pr.eq (.bool false), Pr.eq (.int .i64 a), Pr.eq (.bool false), Pr.eq (.bool false), Pr.eq (.bool false), Pr.eq (.int .i64 a), Pr.eq (.bool true), Pr.eq (.bool false), Pr.eq (.bool false), Pr.eq (.bool false), Pr.eq (.int .i64 x), Pr.eq (.bool true), Pr.eq (.bool true), Pr.eq (.bool true), Pr.eq (undef), Pr.eq (undef), Pr.eq (.bool true)] (by kernel_rfl) (by kernel_rfl) (by kernel_rfl) ⟨?_, ?_, ?_, ?_, ?_, ?_, ?_, ?_, ?_, ?_, ?_, ?_, ?_, ?_, ?_, ?_, ?_, ?_, ?_, ?_, ?_, ?_, ?_, ?_, ?_, trivial⟩ ?_
    · exact fun ac W hL he => stepOk_want rfl (op_move rfl (he.keep (.tmp 2) (by kernel_rfl)))
    · exact fun ac W hL he => stepOk_want rfl (op_len Tryz.underlying40 rfl (he.get 0 19 (by kernel_rfl) rfl) rfl)
    · exact fun ac W hL he => stepOk_want rfl (op_binOp rfl (he.get 1 20 (by kernel_rfl) rfl) rfl (eqg_any rfl) (cmpL hb1) rfl)
    · exact fun ac W hL he => stepOk_want rfl (op_move rfl (he.get 2 21 (by kernel_rfl) rfl))
    · exact fun ac W hL he => stepOk_yes (j := 3) (t := 22) (b := false) rfl rfl (he.get 3 22 (by kernel_rfl) rfl) (op_move rfl (he.keep (.tmp 2) (by kernel_rfl)))
    · exact fun ac W hL he => stepOk_yes (j := 3) (t := 22) (b := false) rfl rfl (he.get 3 22 (by kernel_rfl) rfl) (op_len Tryz.underlying40 rfl (he.get 4 23 (by kernel_rfl) rfl) rfl)
    · exact fun ac W hL he => stepOk_yes (j := 3) (t := 22) (b := false) rfl rfl (he.get 3 22 (by kernel_rfl) rfl) (op_binOp rfl (he.get 5 24 (by kernel_rfl) rfl) rfl (eqg_any rfl) (cmpG hb2) rfl)
    · exact fun ac W hL he => stepOk_want rfl (op_pick (b := false) rfl (he.get 3 22 (by kernel_rfl) rfl) (he.get 6 25 (by kernel_rfl) rfl))
    · exact fun ac W hL he => stepOk_want rfl (op_move rfl (he.get 7 26 (by kernel_rfl) rfl))
    · exact fun ac W hL he => stepOk_yes (j := 8) (t := 27) (b := false) rfl rfl (he.get 8 27 (by kernel_rfl) rfl) (op_move rfl (he.keep (.tmp 0) (by kernel_rfl)))
    · exact fun ac W hL he => stepOk_yes (j := 8) (t := 27) (b := false) rfl rfl (he.get 8 27 (by kernel_rfl) rfl) (op_binOp rfl (he.get 9 28 (by kernel_rfl) rfl) rfl (eqg_any rfl) (cmpL hb3) rfl)
    · exact fun ac W hL he => stepOk_want rfl (op_pick (b := false) rfl (he.get 8 27 (by kernel_rfl) rfl) (he.get 10 29 (by kernel_rfl) rfl))
    · exact fun ac W hL he => stepOk_want rfl (op_move rfl (he.get 11 30 (by kernel_rfl) rfl))
    · exact fun ac W hL he => stepOk_yes (j := 12) (t := 31) (b := false) rfl rfl (he.get 12 31 (by kernel_rfl) rfl) (op_move rfl (he.keep (.tmp 0) (by kernel_rfl)))
    · intro ac W hL he; refine stepOk_yes (j := 12) (t := 31) (b := false) rfl rfl (he.get 12 31 (by kernel_rfl) rfl) ?_; have e0 : ac.eval (.tmp 32) = .int .i64 a := (he.get 13 32 (by kernel_rfl) rfl); exact op_callF (vs := #[.int .i64 a]) rfl (by simp only [List.map_toArray, List.map_cons, List.map_nil, e0]) (enters_of Tryz.func50 (by kernel_rfl) rfl) (((hrt W)).mono fun e W' ⟨he', hw'⟩ => ⟨_, he', hw' ▸ Later.refl _, rfl⟩)
    · exact fun ac W hL he => stepOk_yes (j := 12) (t := 31) (b := false) rfl rfl (he.get 12 31 (by kernel_rfl) rfl) (op_not rfl (he.get 14 33 (by kernel_rfl) rfl) rfl)
    · exact fun ac W hL he => stepOk_want rfl (op_pick (b := false) rfl (he.get 12 31 (by kernel_rfl) rfl) (he.get 15 34 (by kernel_rfl) rfl))
    · exact fun ac W hL he => stepOk_want rfl (op_move rfl (he.get 16 35 (by kernel_rfl) rfl))
    · exact fun ac W hL he => stepOk_yes (j := 17) (t := 36) (b := false) rfl rfl (he.get 17 36 (by kernel_rfl) rfl) (op_move rfl (he.keep (.tmp 1) (by kernel_rfl)))
    · exact fun ac W hL he => stepOk_yes (j := 17) (t := 36) (b := false) rfl rfl (he.get 17 36 (by kernel_rfl) rfl) (op_binOp rfl (he.get 18 37 (by kernel_rfl) rfl) rfl (eqg_any rfl) (cmpL hb5) rfl)
    · exact fun ac W hL he => stepOk_want rfl (op_pick (b := false) rfl (he.get 17 36 (by kernel_rfl) rfl) (he.get 19 38 (by kernel_rfl) rfl))
    · exact fun ac W hL he => stepOk_want rfl (op_move rfl (he.get 20 39 (by kernel_rfl) rfl))
    · exact fun ac W hL he => stepOk_no rfl rfl (he.get 21 40 (by kernel_rfl) rfl) (by decide) rfl
    · exact fun ac W hL he => stepOk_no rfl rfl (he.get 21 40 (by kernel_rfl) rfl) (by decide) rfl
    · exact fun ac W hL he => stepOk_want rfl (op_pick (b := true) rfl (he.get 21 40 (by kernel_rfl) rfl) rfl)
    intro xs W hL hx
    have v24 : xs 24 = .bool true := hx 24 (by decide)
    simp only [putL, Nat.reduceAdd, Act.put, List.setIfInBounds_toArray, List.set_cons_succ, List.set_cons_zero]
    rw [v24]
    clear hx v24
    obtain ⟨w2, hst, kR, gR⟩ := storeHop noHop_wf noHop_wf (kq.later hL)
    have LR : Below w.heap.size w w2 := Below.grown (L0.step hL) gR (Later.size (L0.step hL)) (fun j e => by cases e; exact hqw)
    clear gR hrt
    go_wp2_with (first
      | (guard_target =~ wpList _ _ _ (_ :: _) _ _; refine wpList_build rfl 27 _ rfl #[] rfl (buildHop0 _) ?_)
      | (guard_target =~ wpList _ _ _ (_ :: _) _ _; refine wpList_store rfl 27 (.tmp 6) (.tmp 44) rfl (.pointer (some ⟨q, 0, none⟩)) (.agg (hopC noHop)) rfl rfl hst ?_)
      | fail)
    exact ⟨rfl, _, results_ctt rfl _ _ q 27 (hopC noHop) _ _ _ rfl rfl rfl kR Tryz.underlying27 rfl (by rw [hopC_size noHop_wf]; exact infoHop), HΦ.out _ _ ⟨⟨.slice none 0 0, by rw [HNO]; rfl, none, 0, by rw [HNO]; rfl, by rw [HNO]; exact Recs.nil _ _ _⟩, LR⟩⟩
  have hc5' : b5 = false := by revert hc5; cases b5 <;> simp
  clear hc5
  subst hc5'
  by_cases hc6 : b6 = true
  · subst hc6
    have HNO := HBAD.out (.inr (.inr (.inr (.inr (.inr (hb6))))))
    refine wp_region_seqL [Pr.eq (.slice A n c), Pr.eq (.int .i64 (n : Int)), Pr.eq (.bool false), Pr.eq (.bool false), Pr.eq (.slice A n c), Pr.eq (.int .i64 (n : Int)), Pr.eq (.bool false), Pr.eq (.bool false), Pr.eq (.bool false), Pr.eq (.int .i64 a), Pr.eq (.bool false), Pr.eq (.bool false), Pr.eq (.bool false), Pr.eq (.int .i64 a), Pr.eq (.bool true), Pr.eq (.bool false), Pr.eq (.bool false), Pr.eq (.bool false), Pr.eq (.int .i64 x), Pr.eq (.bool false), Pr.eq (.bool false), Pr.eq (.bool false), Pr.eq (.int .i64 x), Pr.eq (.bool true), Pr.eq (.bool true)] (by kernel_rfl) (by kernel_rfl) (by kernel_rfl) ⟨?_, ?_, ?_, ?_, ?_, ?_, ?_, ?_, ?_, ?_, ?_, ?_, ?_, ?_, ?_, ?_, ?_, ?_, ?_, ?_, ?_, ?_, ?_, ?_, ?_, trivial⟩ ?_
    · exact fun ac W hL he => stepOk_want rfl (op_move rfl (he.keep (.tmp 2) (by kernel_rfl)))
    · exact fun ac W hL he => stepOk_want rfl (op_len Tryz.underlying40 rfl (he.get 0 19 (by kernel_rfl) rfl) rfl)
    · exact fun ac W hL he => stepOk_want rfl (op_binOp rfl (he.get 1 20 (by kernel_rfl) rfl) rfl (eqg_any rfl) (cmpL hb1) rfl)
    · exact fun ac W hL he => stepOk_want rfl (op_move rfl (he.get 2 21 (by kernel_rfl) rfl))
    · exact fun ac W hL he => stepOk_yes (j := 3) (t := 22) (b := false) rfl rfl (he.get 3 22 (by kernel_rfl) rfl) (op_move rfl (he.keep (.tmp 2) (by kernel_rfl)))
    · exact fun ac W hL he => stepOk_yes (j := 3) (t := 22) (b := false) rfl rfl (he.get 3 22 (by kernel_rfl) rfl) (op_len Tryz.underlying40 rfl (he.get 4 23 (by kernel_rfl) rfl) rfl)
    · exact fun ac W hL he => stepOk_yes (j := 3) (t := 22) (b := false) rfl rfl (he.get 3 22 (by kernel_rfl) rfl) (op_binOp rfl (he.get 5 24 (by kernel_rfl) rfl) rfl (eqg_any rfl) (cmpG hb2) rfl)
    · exact fun ac W hL he => stepOk_want rfl (op_pick (b := false) rfl (he.get 3 22 (by kernel_rfl) rfl) (he.get 6 25 (by kernel_rfl) rfl))
    · exact fun ac W hL he => stepOk_want rfl (op_move rfl (he.get 7 26 (by kernel_rfl) rfl))
    · exact fun ac W hL he => stepOk_yes (j := 8) (t := 27) (b := false) rfl rfl (he.get 8 27 (by kernel_rfl) rfl) (op_move rfl (he.keep (.tmp 0) (by kernel_rfl)))
    · exact fun ac W hL he => stepOk_yes (j := 8) (t := 27) (b := false) rfl rfl (he.get 8 27 (by kernel_rfl) rfl) (op_binOp rfl (he.get 9 28 (by kernel_rfl) rfl) rfl (eqg_any rfl) (cmpL hb3) rfl)
    · exact fun ac W hL he => stepOk_want rfl (op_pick (b := false) rfl (he.get 8 27 (by kernel_rfl) rfl) (he.get 10 29 (by kernel_rfl) rfl))
    · exact fun ac W hL he => stepOk_want rfl (op_move rfl (he.get 11 30 (by kernel_rfl) rfl))
    · exact fun ac W hL he => stepOk_yes (j := 12) (t := 31) (b := false) rfl rfl (he.get 12 31 (by kernel_rfl) rfl) (op_move rfl (he.keep (.tmp 0) (by kernel_rfl)))
    · intro ac W hL he; refine stepOk_yes (j := 12) (t := 31) (b := false) rfl rfl (he.get 12 31 (by kernel_rfl) rfl) ?_; have e0 : ac.eval (.tmp 32) = .int .i64 a := (he.get 13 32 (by kernel_rfl) rfl); exact op_callF (vs := #[.int .i64 a]) rfl (by simp only [List.map_toArray, List.map_cons, List.map_nil, e0]) (enters_of Tryz.func50 (by kernel_rfl) rfl) (((hrt W)).mono fun e W' ⟨he', hw'⟩ => ⟨_, he', hw' ▸ Later.refl _, rfl⟩)
    · exact fun ac W hL he => stepOk_yes (j := 12) (t := 31) (b := false) rfl rfl (he.get 12 31 (by kernel_rfl) rfl) (op_not rfl (he.get 14 33 (by kernel_rfl) rfl) rfl)
    · exact fun ac W hL he => stepOk_want rfl (op_pick (b := false) rfl (he.get 12 31 (by kernel_rfl) rfl) (he.get 15 34 (by kernel_rfl) rfl))
    · exact fun ac W hL he => stepOk_want rfl (op_move rfl (he.get 16 35 (by kernel_rfl) rfl))
    · exact fun ac W hL he => stepOk_yes (j := 17) (t := 36) (b := false) rfl rfl (he.get 17 36 (by kernel_rfl) rfl) (op_move rfl (he.keep (.tmp 1) (by kernel_rfl)))
    · exact fun ac W hL he => stepOk_yes (j := 17) (t := 36) (b := false) rfl rfl (he.get 17 36 (by kernel_rfl) rfl) (op_binOp rfl (he.get 18 37 (by kernel_rfl) rfl) rfl (eqg_any rfl) (cmpL hb5) rfl)
    · exact fun ac W hL he => stepOk_want rfl (op_pick (b := false) rfl (he.get 17 36 (by kernel_rfl) rfl) (he.get 19 38 (by kernel_rfl) rfl))
    · exact fun ac W hL he => stepOk_want rfl (op_move rfl (he.get 20 39 (by kernel_rfl) rfl))
    · exact fun ac W hL he => stepOk_yes (j := 21) (t := 40) (b := false) rfl rfl (he.get 21 40 (by kernel_rfl) rfl) (op_move rfl (he.keep (.tmp 1) (by kernel_rfl)))
    · exact fun ac W hL he => stepOk_yes (j := 21) (t := 40) (b := false) rfl rfl (he.get 21 40 (by kernel_rfl) rfl) (op_binOp rfl (he.get 22 41 (by kernel_rfl) rfl) rfl (eqg_any rfl) (cmpG hb6) rfl)
    · exact fun ac W hL he => stepOk_want rfl (op_pick (b := false) rfl (he.get 21 40 (by kernel_rfl) rfl) (he.get 23 42 (by kernel_rfl) rfl))
    intro xs W hL hx
    have v24 : xs 24 = .bool true := hx 24 (by decide)
    simp only [putL, Nat.reduceAdd, Act.put, List.setIfInBounds_toArray, List.set_cons_succ, List.set_cons_zero]
    rw [v24]
    clear hx v24
    obtain ⟨w2, hst, kR, gR⟩ := storeHop noHop_wf noHop_wf (kq.later hL)
    have LR : Below w.heap.size w w2 := Below.grown (L0.step hL) gR (Later.size (L0.step hL)) (fun j e => by cases e; exact hqw)
    clear gR hrt
    go_wp2_with (first
      | (guard_target =~ wpList _ _ _ (_ :: _) _ _; refine wpList_build rfl 27 _ rfl #[] rfl (buildHop0 _) ?_)
      | (guard_target =~ wpList _ _ _ (_ :: _) _ _; refine wpList_store rfl 27 (.tmp 6) (.tmp 44) rfl (.pointer (some ⟨q, 0, none⟩)) (.agg (hopC noHop)) rfl rfl hst ?_)
      | fail)
    exact ⟨rfl, _, results_ctt rfl _ _ q 27 (hopC noHop) _ _ _ rfl rfl rfl kR Tryz.underlying27 rfl (by rw [hopC_size noHop_wf]; exact infoHop), HΦ.out _ _ ⟨⟨.slice none 0 0, by rw [HNO]; rfl, none, 0, by rw [HNO]; rfl, by rw [HNO]; exact Recs.nil _ _ _⟩, LR⟩⟩
  have hc6' : b6 = false := by revert hc6; cases b6 <;> simp
  clear hc6
  subst hc6'
  refine wp_region_seqL [Pr.eq (.slice A n c), Pr.eq (.int .i64 (n : Int)), Pr.eq (.bool false), Pr.eq (.bool false), Pr.eq (.slice A n c), Pr.eq (.int .i64 (n : Int)), Pr.eq (.bool false), Pr.eq (.bool false), Pr.eq (.bool false), Pr.eq (.int .i64 a), Pr.eq (.bool false), Pr.eq (.bool false), Pr.eq (.bool false), Pr.eq (.int .i64 a), Pr.eq (.bool true), Pr.eq (.bool false), Pr.eq (.bool false), Pr.eq (.bool false), Pr.eq (.int .i64 x), Pr.eq (.bool false), Pr.eq (.bool false), Pr.eq (.bool false), Pr.eq (.int .i64 x), Pr.eq (.bool false), Pr.eq (.bool false)] (by kernel_rfl) (by kernel_rfl) (by kernel_rfl) ⟨?_, ?_, ?_, ?_, ?_, ?_, ?_, ?_, ?_, ?_, ?_, ?_, ?_, ?_, ?_, ?_, ?_, ?_, ?_, ?_, ?_, ?_, ?_, ?_, ?_, trivial⟩ ?_
  · exact fun ac W hL he => stepOk_want rfl (op_move rfl (he.keep (.tmp 2) (by kernel_rfl)))
  · exact fun ac W hL he => stepOk_want rfl (op_len Tryz.underlying40 rfl (he.get 0 19 (by kernel_rfl) rfl) rfl)
  · exact fun ac W hL he => stepOk_want rfl (op_binOp rfl (he.get 1 20 (by kernel_rfl) rfl) rfl (eqg_any rfl) (cmpL hb1) rfl)
  · exact fun ac W hL he => stepOk_want rfl (op_move rfl (he.get 2 21 (by kernel_rfl) rfl))
  · exact fun ac W hL he => stepOk_yes (j := 3) (t := 22) (b := false) rfl rfl (he.get 3 22 (by kernel_rfl) rfl) (op_move rfl (he.keep (.tmp 2) (by kernel_rfl)))
  · exact fun ac W hL he => stepOk_yes (j := 3) (t := 22) (b := false) rfl rfl (he.get 3 22 (by kernel_rfl) rfl) (op_len Tryz.underlying40 rfl (he.get 4 23 (by kernel_rfl) rfl) rfl)
  · exact fun ac W hL he => stepOk_yes (j := 3) (t := 22) (b := false) rfl rfl (he.get 3 22 (by kernel_rfl) rfl) (op_binOp rfl (he.get 5 24 (by kernel_rfl) rfl) rfl (eqg_any rfl) (cmpG hb2) rfl)
  · exact fun ac W hL he => stepOk_want rfl (op_pick (b := false) rfl (he.get 3 22 (by kernel_rfl) rfl) (he.get 6 25 (by kernel_rfl) rfl))
  · exact fun ac W hL he => stepOk_want rfl (op_move rfl (he.get 7 26 (by kernel_rfl) rfl))
  · exact fun ac W hL he => stepOk_yes (j := 8) (t := 27) (b := false) rfl rfl (he.get 8 27 (by kernel_rfl) rfl) (op_move rfl (he.keep (.tmp 0) (by kernel_rfl)))
  · exact fun ac W hL he => stepOk_yes (j := 8) (t := 27) (b := false) rfl rfl (he.get 8 27 (by kernel_rfl) rfl) (op_binOp rfl (he.get 9 28 (by kernel_rfl) rfl) rfl (eqg_any rfl) (cmpL hb3) rfl)
  · exact fun ac W hL he => stepOk_want rfl (op_pick (b := false) rfl (he.get 8 27 (by kernel_rfl) rfl) (he.get 10 29 (by kernel_rfl) rfl))
  · exact fun ac W hL he => stepOk_want rfl (op_move rfl (he.get 11 30 (by kernel_rfl) rfl))
  · exact fun ac W hL he => stepOk_yes (j := 12) (t := 31) (b := false) rfl rfl (he.get 12 31 (by kernel_rfl) rfl) (op_move rfl (he.keep (.tmp 0) (by kernel_rfl)))
  · intro ac W hL he; refine stepOk_yes (j := 12) (t := 31) (b := false) rfl rfl (he.get 12 31 (by kernel_rfl) rfl) ?_; have e0 : ac.eval (.tmp 32) = .int .i64 a := (he.get 13 32 (by kernel_rfl) rfl); exact op_callF (vs := #[.int .i64 a]) rfl (by simp only [List.map_toArray, List.map_cons, List.map_nil, e0]) (enters_of Tryz.func50 (by kernel_rfl) rfl) (((hrt W)).mono fun e W' ⟨he', hw'⟩ => ⟨_, he', hw' ▸ Later.refl _, rfl⟩)
  · exact fun ac W hL he => stepOk_yes (j := 12) (t := 31) (b := false) rfl rfl (he.get 12 31 (by kernel_rfl) rfl) (op_not rfl (he.get 14 33 (by kernel_rfl) rfl) rfl)
  · exact fun ac W hL he => stepOk_want rfl (op_pick (b := false) rfl (he.get 12 31 (by kernel_rfl) rfl) (he.get 15 34 (by kernel_rfl) rfl))
  · exact fun ac W hL he => stepOk_want rfl (op_move rfl (he.get 16 35 (by kernel_rfl) rfl))
  · exact fun ac W hL he => stepOk_yes (j := 17) (t := 36) (b := false) rfl rfl (he.get 17 36 (by kernel_rfl) rfl) (op_move rfl (he.keep (.tmp 1) (by kernel_rfl)))
  · exact fun ac W hL he => stepOk_yes (j := 17) (t := 36) (b := false) rfl rfl (he.get 17 36 (by kernel_rfl) rfl) (op_binOp rfl (he.get 18 37 (by kernel_rfl) rfl) rfl (eqg_any rfl) (cmpL hb5) rfl)
  · exact fun ac W hL he => stepOk_want rfl (op_pick (b := false) rfl (he.get 17 36 (by kernel_rfl) rfl) (he.get 19 38 (by kernel_rfl) rfl))
  · exact fun ac W hL he => stepOk_want rfl (op_move rfl (he.get 20 39 (by kernel_rfl) rfl))
  · exact fun ac W hL he => stepOk_yes (j := 21) (t := 40) (b := false) rfl rfl (he.get 21 40 (by kernel_rfl) rfl) (op_move rfl (he.keep (.tmp 1) (by kernel_rfl)))
  · exact fun ac W hL he => stepOk_yes (j := 21) (t := 40) (b := false) rfl rfl (he.get 21 40 (by kernel_rfl) rfl) (op_binOp rfl (he.get 22 41 (by kernel_rfl) rfl) rfl (eqg_any rfl) (cmpG hb6) rfl)
  · exact fun ac W hL he => stepOk_want rfl (op_pick (b := false) rfl (he.get 21 40 (by kernel_rfl) rfl) (he.get 23 42 (by kernel_rfl) rfl))
  intro xs W hL hx
  have v24 : xs 24 = .bool false := hx 24 (by decide)
  simp only [putL, Nat.reduceAdd, Act.put, List.setIfInBounds_toArray, List.set_cons_succ, List.set_cons_zero]
  rw [v24]
  clear hx v24
  have hok1 : 1 ≤ n ∧ n ≤ 6 ∧ paid a x = true := by
    have h := HBX.out
    unfold bad maxAmt at h
    unfold paid
    simp only [Bool.not_eq_true', Bool.or_eq_false_iff, decide_eq_false_iff_not, Bool.and_eq_true, decide_eq_true_eq] at h ⊢
    omega
  obtain ⟨hn1, hn6, hpd⟩ := hok1
  have HPD := Lib.hid hpd
  have kW := kq.later hL
  have LW := L0.step hL
  have hAW := hA1.later hL
  clear hpd HBX HBAD hb1 hb2 hb3 hb4 hb5 hb6 hrt kq hL L0 hA1
  have hqW := kW.lt
  go_wp2_with fail
  go_loopw [9, 10] (fun v t wr => ∃ k : Nat, k ≤ n ∧ t = .int .i64 k ∧ (∀ e ∈ l.take k, okE e = true) ∧ OwnG 42 2 wr W.heap.size v ((feesOf (l.take k).tail).map feeL) ∧ Later W wr) (fun _ t _ => n - (intOf t).toNat)
  case atStart => exact ⟨0, by omega, rfl, by simp, OwnG.nil _ _ _ _, Later.refl _⟩
  case round =>
    obtain ⟨k, hk, rfl, hoks, hown, hL⟩ := hrel
    obtain ⟨Fb, cF, rfl, -, -, -⟩ := hown.slice
    have hfk : ((feesOf (l.take k).tail).map feeL).length = k - 1 := by rw [List.length_map, feesOf, List.length_map, List.length_tail, List.length_take, HN.out, Nat.min_eq_left hk]
    rw [hfk] at hown ⊢
    by_cases hlt : k < n
    · have hd : decide ((k : Int) < (n : Int)) = true := decide_eq_true (by omega)
      have hd' : decide (k < n) = true := decide_eq_true hlt
      have hkl : k < l.length := by rw [HN.out]; exact hlt
      obtain ⟨b, o, rfl, hcell⟩ := (hAW.later hL).at_ (k := k) (by simpa using hkl)
      rw [List.getElem_map] at hcell
      have hew := HL.out _ (List.getElem_mem hkl)
      obtain ⟨ed, hed⟩ : ∃ e, l[k] = e := ⟨_, rfl⟩
      rw [hed] at hcell hew
      have c64 : wr.cell? ⟨b, o + k * 67 + 64, none⟩ = some (numV ed.base) := hcell 64 _ (by rw [Array.getElem?_toList]; exact (edgeC_num hew).1)
      have c65 : wr.cell? ⟨b, o + k * 67 + 64 + 1, none⟩ = some (numV ed.rate) := hcell 65 _ (by rw [Array.getElem?_toList]; exact (edgeC_num hew).2.1)
      have c66 : wr.cell? ⟨b, o + k * 67 + 66, none⟩ = some (.int .i64 ed.delta) := hcell 66 _ (by rw [Array.getElem?_toList]; exact (edgeC_num hew).2.2)
      have hix := fun W => idxEdge (b := b) (o := o) (n := n) (c := c) (i := k) W hlt
      have htk := fun W => refFee_any ed.base ed.rate W
      have hokE : okE ed = ((decide (0 ≤ ed.delta) && decide (ed.delta ≤ 1000)) && rightF (ed.base, ed.rate)) := rfl
      have hnot : okE ed = false → plan a x l = (noHop, [], 2) := fun h => by
        have : okPlan a x l = false := by
          unfold okPlan
          have : l.all okE = false := by
            rw [List.all_eq_false]
            exact ⟨ed, by rw [← hed]; exact List.getElem_mem hkl, by rw [h]; simp⟩
          rw [this]; simp
        unfold plan
        rw [this]
        rfl
      have HNOT := Lib.hid hnot
      have HED := Lib.hid hed
      have HOKS := Lib.hid hoks
      clear hnot hed hoks hcell
      obtain ⟨d1, hd1⟩ : ∃ b, (amts [ed.base] && okRate ed.rate) = b := ⟨_, rfl⟩
      obtain ⟨d2, hd2⟩ : ∃ b, decide (ed.delta < 0) = b := ⟨_, rfl⟩
      obtain ⟨d3, hd3⟩ : ∃ b, decide (1000 < ed.delta) = b := ⟨_, rfl⟩
      simp only [hd1] at htk
      have hokE2 : okE ed = ((!d2 && !d3) && d1) := by
        rw [hokE, ← hd1, ← hd2, ← hd3]
        show _ = ((!decide (ed.delta < 0) && !decide (1000 < ed.delta)) && rightF (ed.base, ed.rate))
        rw [show decide (0 ≤ ed.delta) = !decide (ed.delta < 0) by rw [← decide_not]; congr 1; exact propext ⟨fun h => by omega, fun h => by omega⟩, show decide (ed.delta ≤ 1000) = !decide (1000 < ed.delta) by rw [← decide_not]; congr 1; exact propext ⟨fun h => by omega, fun h => by omega⟩]
      clear hd1 hokE
      by_cases hc : d1 = false
      · subst hc
        have HNO := HNOT.out (by rw [hokE2]; simp)
        go_upto_region 7 with fail
        refine wp_region_seqL [Pr.eq (.slice (some ⟨b, o, none⟩) n c), Pr.eq (.int .i64 (k : Int)), Pr.eq (.pointer (some ⟨b, o + k * 67, none⟩)), Pr.eq (.pointer (some ⟨b, o + k * 67 + 64, none⟩)), Pr.eq (.agg #[.int .i64 ed.base, .int .i64 ed.rate]), Pr.eq (.bool false), Pr.eq (.bool true), Pr.eq (.bool true), Pr.eq (undef), Pr.eq (undef), Pr.eq (undef), Pr.eq (undef), Pr.eq (undef), Pr.eq (undef), Pr.eq (.bool true), Pr.eq (.bool true), Pr.eq (undef), Pr.eq (undef), Pr.eq (undef), Pr.eq (undef), Pr.eq (undef), Pr.eq (undef), Pr.eq (.bool true)] (by kernel_rfl) (by kernel_rfl) (by kernel_rfl) ⟨?_, ?_, ?_, ?_, ?_, ?_, ?_, ?_, ?_, ?_, ?_, ?_, ?_, ?_, ?_, ?_, ?_, ?_, ?_, ?_, ?_, ?_, ?_, trivial⟩ ?_
        · exact fun ac W hL he => stepOk_want rfl (op_move rfl (he.keep (.tmp 2) (by kernel_rfl)))
        · exact fun ac W hL he => stepOk_want rfl (op_move rfl (he.keep (.tmp 10) (by kernel_rfl)))
        · exact fun ac W hL he => stepOk_want rfl (op_idx rfl (he.get 0 51 (by kernel_rfl) rfl) (he.get 1 52 (by kernel_rfl) rfl) (hix W) rfl)
        · exact fun ac W hL he => stepOk_want rfl (op_fieldAddr rfl (he.get 2 53 (by kernel_rfl) rfl) fEdge2 rfl)
        · exact fun ac W hL he => stepOk_want rfl (op_load rfl (he.get 3 54 (by kernel_rfl) rfl) (run_load_fee (Later.cell hL c64) (Later.cell hL c65)) rfl)
        · intro ac W hL he; refine stepOk_want rfl ?_; have e0 : ac.eval (.tmp 55) = .agg #[.int .i64 ed.base, .int .i64 ed.rate] := (he.get 4 55 (by kernel_rfl) rfl); exact op_callF (vs := #[.agg #[.int .i64 ed.base, .int .i64 ed.rate]]) rfl (by simp only [List.map_toArray, List.map_cons, List.map_nil, e0]) (enters_of Tryz.func51 (by kernel_rfl) rfl) (((htk W)).mono fun e W' ⟨he', hb⟩ => ⟨_, he', hb, rfl⟩)
        · exact fun ac W hL he => stepOk_want rfl (op_not rfl (he.get 5 56 (by kernel_rfl) rfl) rfl)
        · exact fun ac W hL he => stepOk_want rfl (op_move rfl (he.get 6 57 (by kernel_rfl) rfl))
        · exact fun ac W hL he => stepOk_no rfl rfl (he.get 7 58 (by kernel_rfl) rfl) (by decide) rfl
        · exact fun ac W hL he => stepOk_no rfl rfl (he.get 7 58 (by kernel_rfl) rfl) (by decide) rfl
        · exact fun ac W hL he => stepOk_no rfl rfl (he.get 7 58 (by kernel_rfl) rfl) (by decide) rfl
        · exact fun ac W hL he => stepOk_no rfl rfl (he.get 7 58 (by kernel_rfl) rfl) (by decide) rfl
        · exact fun ac W hL he => stepOk_no rfl rfl (he.get 7 58 (by kernel_rfl) rfl) (by decide) rfl
        · exact fun ac W hL he => stepOk_no rfl rfl (he.get 7 58 (by kernel_rfl) rfl) (by decide) rfl
        · exact fun ac W hL he => stepOk_want rfl (op_pick (b := true) rfl (he.get 7 58 (by kernel_rfl) rfl) rfl)
        · exact fun ac W hL he => stepOk_want rfl (op_move rfl (he.get 14 65 (by kernel_rfl) rfl))
        · exact fun ac W hL he => stepOk_no rfl rfl (he.get 15 66 (by kernel_rfl) rfl) (by decide) rfl
        · exact fun ac W hL he => stepOk_no rfl rfl (he.get 15 66 (by kernel_rfl) rfl) (by decide) rfl
        · exact fun ac W hL he => stepOk_no rfl rfl (he.get 15 66 (by kernel_rfl) rfl) (by decide) rfl
        · exact fun ac W hL he => stepOk_no rfl rfl (he.get 15 66 (by kernel_rfl) rfl) (by decide) rfl
        · exact fun ac W hL he => stepOk_no rfl rfl (he.get 15 66 (by kernel_rfl) rfl) (by decide) rfl
        · exact fun ac W hL he => stepOk_no rfl rfl (he.get 15 66 (by kernel_rfl) rfl) (by decide) rfl
        · exact fun ac W hL he => stepOk_want rfl (op_pick (b := true) rfl (he.get 15 66 (by kernel_rfl) rfl) rfl)
        intro xs W2 hL2 hx
        have v22 : xs 22 = .bool true := hx 22 (by decide)
        simp only [putL, Nat.reduceAdd, Act.put, List.setIfInBounds_toArray, List.set_cons_succ, List.set_cons_zero]
        rw [v22]
        clear hx v22
        obtain ⟨w2, hst, kR, gR⟩ := storeHop noHop_wf noHop_wf ((kW.later hL).later hL2)
        have LR : Below w.heap.size w w2 := Below.grown ((LW.step hL).step hL2) gR (Later.size ((LW.step hL).step hL2)) (fun j e => by cases e; exact hqw)
        clear gR
        go_wp2_with (first
          | (guard_target =~ wpList _ _ _ (_ :: _) _ _; refine wpList_build rfl 27 _ rfl #[] rfl (buildHop0 _) ?_)
          | (guard_target =~ wpList _ _ _ (_ :: _) _ _; refine wpList_store rfl 27 (.tmp 6) (.tmp 74) rfl (.pointer (some ⟨q, 0, none⟩)) (.agg (hopC noHop)) rfl rfl hst ?_)
          | fail)
        exact ⟨rfl, _, results_ctt rfl _ _ q 27 (hopC noHop) _ _ _ rfl rfl rfl kR Tryz.underlying27 rfl (by rw [hopC_size noHop_wf]; exact infoHop), HΦ.out _ _ ⟨⟨.slice none 0 0, by rw [HNO]; rfl, none, 0, by rw [HNO]; rfl, by rw [HNO]; exact Recs.nil _ _ _⟩, LR⟩⟩
      have hc' : d1 = true := by revert hc; cases d1 <;> simp
      clear hc
      subst hc'
      by_cases hc : d2 = true
      · subst hc
        have HNO := HNOT.out (by rw [hokE2]; simp)
        go_upto_region 7 with fail
        refine wp_region_seqL [Pr.eq (.slice (some ⟨b, o, none⟩) n c), Pr.eq (.int .i64 (k : Int)), Pr.eq (.pointer (some ⟨b, o + k * 67, none⟩)), Pr.eq (.pointer (some ⟨b, o + k * 67 + 64, none⟩)), Pr.eq (.agg #[.int .i64 ed.base, .int .i64 ed.rate]), Pr.eq (.bool true), Pr.eq (.bool false), Pr.eq (.bool false), Pr.eq (.slice (some ⟨b, o, none⟩) n c), Pr.eq (.int .i64 (k : Int)), Pr.eq (.pointer (some ⟨b, o + k * 67, none⟩)), Pr.eq (.pointer (some ⟨b, o + k * 67 + 66, none⟩)), Pr.eq (.int .i64 ed.delta), Pr.eq (.bool true), Pr.eq (.bool true), Pr.eq (.bool true), Pr.eq (undef), Pr.eq (undef), Pr.eq (undef), Pr.eq (undef), Pr.eq (undef), Pr.eq (undef), Pr.eq (.bool true)] (by kernel_rfl) (by kernel_rfl) (by kernel_rfl) ⟨?_, ?_, ?_, ?_, ?_, ?_, ?_, ?_, ?_, ?_, ?_, ?_, ?_, ?_, ?_, ?_, ?_, ?_, ?_, ?_, ?_, ?_, ?_, trivial⟩ ?_
        · exact fun ac W hL he => stepOk_want rfl (op_move rfl (he.keep (.tmp 2) (by kernel_rfl)))
        · exact fun ac W hL he => stepOk_want rfl (op_move rfl (he.keep (.tmp 10) (by kernel_rfl)))
        · exact fun ac W hL he => stepOk_want rfl (op_idx rfl (he.get 0 51 (by kernel_rfl) rfl) (he.get 1 52 (by kernel_rfl) rfl) (hix W) rfl)
        · exact fun ac W hL he => stepOk_want rfl (op_fieldAddr rfl (he.get 2 53 (by kernel_rfl) rfl) fEdge2 rfl)
        · exact fun ac W hL he => stepOk_want rfl (op_load rfl (he.get 3 54 (by kernel_rfl) rfl) (run_load_fee (Later.cell hL c64) (Later.cell hL c65)) rfl)
        · intro ac W hL he; refine stepOk_want rfl ?_; have e0 : ac.eval (.tmp 55) = .agg #[.int .i64 ed.base, .int .i64 ed.rate] := (he.get 4 55 (by kernel_rfl) rfl); exact op_callF (vs := #[.agg #[.int .i64 ed.base, .int .i64 ed.rate]]) rfl (by simp only [List.map_toArray, List.map_cons, List.map_nil, e0]) (enters_of Tryz.func51 (by kernel_rfl) rfl) (((htk W)).mono fun e W' ⟨he', hb⟩ => ⟨_, he', hb, rfl⟩)
        · exact fun ac W hL he => stepOk_want rfl (op_not rfl (he.get 5 56 (by kernel_rfl) rfl) rfl)
        · exact fun ac W hL he => stepOk_want rfl (op_move rfl (he.get 6 57 (by kernel_rfl) rfl))
        · exact fun ac W hL he => stepOk_yes (j := 7) (t := 58) (b := false) rfl rfl (he.get 7 58 (by kernel_rfl) rfl) (op_move rfl (he.keep (.tmp 2) (by kernel_rfl)))
        · exact fun ac W hL he => stepOk_yes (j := 7) (t := 58) (b := false) rfl rfl (he.get 7 58 (by kernel_rfl) rfl) (op_move rfl (he.keep (.tmp 10) (by kernel_rfl)))
        · exact fun ac W hL he => stepOk_yes (j := 7) (t := 58) (b := false) rfl rfl (he.get 7 58 (by kernel_rfl) rfl) (op_idx rfl (he.get 8 59 (by kernel_rfl) rfl) (he.get 9 60 (by kernel_rfl) rfl) (hix W) rfl)
        · exact fun ac W hL he => stepOk_yes (j := 7) (t := 58) (b := false) rfl rfl (he.get 7 58 (by kernel_rfl) rfl) (op_fieldAddr rfl (he.get 10 61 (by kernel_rfl) rfl) fEdge3 rfl)
        · exact fun ac W hL he => stepOk_yes (j := 7) (t := 58) (b := false) rfl rfl (he.get 7 58 (by kernel_rfl) rfl) (op_load rfl (he.get 11 62 (by kernel_rfl) rfl) (ldI64 (Later.cell hL c66)) rfl)
        · exact fun ac W hL he => stepOk_yes (j := 7) (t := 58) (b := false) rfl rfl (he.get 7 58 (by kernel_rfl) rfl) (op_binOp rfl (he.get 12 63 (by kernel_rfl) rfl) rfl (eqg_any rfl) (cmpL hd2) rfl)
        · exact fun ac W hL he => stepOk_want rfl (op_pick (b := false) rfl (he.get 7 58 (by kernel_rfl) rfl) (he.get 13 64 (by kernel_rfl) rfl))
        · exact fun ac W hL he => stepOk_want rfl (op_move rfl (he.get 14 65 (by kernel_rfl) rfl))
        · exact fun ac W hL he => stepOk_no rfl rfl (he.get 15 66 (by kernel_rfl) rfl) (by decide) rfl
        · exact fun ac W hL he => stepOk_no rfl rfl (he.get 15 66 (by kernel_rfl) rfl) (by decide) rfl
        · exact fun ac W hL he => stepOk_no rfl rfl (he.get 15 66 (by kernel_rfl) rfl) (by decide) rfl
        · exact fun ac W hL he => stepOk_no rfl rfl (he.get 15 66 (by kernel_rfl) rfl) (by decide) rfl
        · exact fun ac W hL he => stepOk_no rfl rfl (he.get 15 66 (by kernel_rfl) rfl) (by decide) rfl
        · exact fun ac W hL he => stepOk_no rfl rfl (he.get 15 66 (by kernel_rfl) rfl) (by decide) rfl
        · exact fun ac W hL he => stepOk_want rfl (op_pick (b := true) rfl (he.get 15 66 (by kernel_rfl) rfl) rfl)
        intro xs W2 hL2 hx
        have v22 : xs 22 = .bool true := hx 22 (by decide)
        simp only [putL, Nat.reduceAdd, Act.put, List.setIfInBounds_toArray, List.set_cons_succ, List.set_cons_zero]
        rw [v22]
        clear hx v22
        obtain ⟨w2, hst, kR, gR⟩ := storeHop noHop_wf noHop_wf ((kW.later hL).later hL2)
        have LR : Below w.heap.size w w2 := Below.grown ((LW.step hL).step hL2) gR (Later.size ((LW.step hL).step hL2)) (fun j e => by cases e; exact hqw)
        clear gR
        go_wp2_with (first
          | (guard_target =~ wpList _ _ _ (_ :: _) _ _; refine wpList_build rfl 27 _ rfl #[] rfl (buildHop0 _) ?_)
          | (guard_target =~ wpList _ _ _ (_ :: _) _ _; refine wpList_store rfl 27 (.tmp 6) (.tmp 74) rfl (.pointer (some ⟨q, 0, none⟩)) (.agg (hopC noHop)) rfl rfl hst ?_)
          | fail)
        exact ⟨rfl, _, results_ctt rfl _ _ q 27 (hopC noHop) _ _ _ rfl rfl rfl kR Tryz.underlying27 rfl (by rw [hopC_size noHop_wf]; exact infoHop), HΦ.out _ _ ⟨⟨.slice none 0 0, by rw [HNO]; rfl, none, 0, by rw [HNO]; rfl, by rw [HNO]; exact Recs.nil _ _ _⟩, LR⟩⟩
      have hc' : d2 = false := by revert hc; cases d2 <;> simp
      clear hc
      subst hc'
      by_cases hc : d3 = true
      · subst hc
        have HNO := HNOT.out (by rw [hokE2]; simp)
        go_upto_region 7 with fail
        refine wp_region_seqL [Pr.eq (.slice (some ⟨b, o, none⟩) n c), Pr.eq (.int .i64 (k : Int)), Pr.eq (.pointer (some ⟨b, o + k * 67, none⟩)), Pr.eq (.pointer (some ⟨b, o + k * 67 + 64, none⟩)), Pr.eq (.agg #[.int .i64 ed.base, .int .i64 ed.rate]), Pr.eq (.bool true), Pr.eq (.bool false), Pr.eq (.bool false), Pr.eq (.slice (some ⟨b, o, none⟩) n c), Pr.eq (.int .i64 (k : Int)), Pr.eq (.pointer (some ⟨b, o + k * 67, none⟩)), Pr.eq (.pointer (some ⟨b, o + k * 67 + 66, none⟩)), Pr.eq (.int .i64 ed.delta), Pr.eq (.bool false), Pr.eq (.bool false), Pr.eq (.bool false), Pr.eq (.slice (some ⟨b, o, none⟩) n c), Pr.eq (.int .i64 (k : Int)), Pr.eq (.pointer (some ⟨b, o + k * 67, none⟩)), Pr.eq (.pointer (some ⟨b, o + k * 67 + 66, none⟩)), Pr.eq (.int .i64 ed.delta), Pr.eq (.bool true), Pr.eq (.bool true)] (by kernel_rfl) (by kernel_rfl) (by kernel_rfl) ⟨?_, ?_, ?_, ?_, ?_, ?_, ?_, ?_, ?_, ?_, ?_, ?_, ?_, ?_, ?_, ?_, ?_, ?_, ?_, ?_, ?_, ?_, ?_, trivial⟩ ?_
        · exact fun ac W hL he => stepOk_want rfl (op_move rfl (he.keep (.tmp 2) (by kernel_rfl)))
        · exact fun ac W hL he => stepOk_want rfl (op_move rfl (he.keep (.tmp 10) (by kernel_rfl)))
        · exact fun ac W hL he => stepOk_want rfl (op_idx rfl (he.get 0 51 (by kernel_rfl) rfl) (he.get 1 52 (by kernel_rfl) rfl) (hix W) rfl)
        · exact fun ac W hL he => stepOk_want rfl (op_fieldAddr rfl (he.get 2 53 (by kernel_rfl) rfl) fEdge2 rfl)
        · exact fun ac W hL he => stepOk_want rfl (op_load rfl (he.get 3 54 (by kernel_rfl) rfl) (run_load_fee (Later.cell hL c64) (Later.cell hL c65)) rfl)
        · intro ac W hL he; refine stepOk_want rfl ?_; have e0 : ac.eval (.tmp 55) = .agg #[.int .i64 ed.base, .int .i64 ed.rate] := (he.get 4 55 (by kernel_rfl) rfl); exact op_callF (vs := #[.agg #[.int .i64 ed.base, .int .i64 ed.rate]]) rfl (by simp only [List.map_toArray, List.map_cons, List.map_nil, e0]) (enters_of Tryz.func51 (by kernel_rfl) rfl) (((htk W)).mono fun e W' ⟨he', hb⟩ => ⟨_, he', hb, rfl⟩)
        · exact fun ac W hL he => stepOk_want rfl (op_not rfl (he.get 5 56 (by kernel_rfl) rfl) rfl)
        · exact fun ac W hL he => stepOk_want rfl (op_move rfl (he.get 6 57 (by kernel_rfl) rfl))
        · exact fun ac W hL he => stepOk_yes (j := 7) (t := 58) (b := false) rfl rfl (he.get 7 58 (by kernel_rfl) rfl) (op_move rfl (he.keep (.tmp 2) (by kernel_rfl)))
        · exact fun ac W hL he => stepOk_yes (j := 7) (t := 58) (b := false) rfl rfl (he.get 7 58 (by kernel_rfl) rfl) (op_move rfl (he.keep (.tmp 10) (by kernel_rfl)))
        · exact fun ac W hL he => stepOk_yes (j := 7) (t := 58) (b := false) rfl rfl (he.get 7 58 (by kernel_rfl) rfl) (op_idx rfl (he.get 8 59 (by kernel_rfl) rfl) (he.get 9 60 (by kernel_rfl) rfl) (hix W) rfl)
        · exact fun ac W hL he => stepOk_yes (j := 7) (t := 58) (b := false) rfl rfl (he.get 7 58 (by kernel_rfl) rfl) (op_fieldAddr rfl (he.get 10 61 (by kernel_rfl) rfl) fEdge3 rfl)
        · exact fun ac W hL he => stepOk_yes (j := 7) (t := 58) (b := false) rfl rfl (he.get 7 58 (by kernel_rfl) rfl) (op_load rfl (he.get 11 62 (by kernel_rfl) rfl) (ldI64 (Later.cell hL c66)) rfl)
        · exact fun ac W hL he => stepOk_yes (j := 7) (t := 58) (b := false) rfl rfl (he.get 7 58 (by kernel_rfl) rfl) (op_binOp rfl (he.get 12 63 (by kernel_rfl) rfl) rfl (eqg_any rfl) (cmpL hd2) rfl)
        · exact fun ac W hL he => stepOk_want rfl (op_pick (b := false) rfl (he.get 7 58 (by kernel_rfl) rfl) (he.get 13 64 (by kernel_rfl) rfl))
        · exact fun ac W hL he => stepOk_want rfl (op_move rfl (he.get 14 65 (by kernel_rfl) rfl))
        · exact fun ac W hL he => stepOk_yes (j := 15) (t := 66) (b := false) rfl rfl (he.get 15 66 (by kernel_rfl) rfl) (op_move rfl (he.keep (.tmp 2) (by kernel_rfl)))
        · exact fun ac W hL he => stepOk_yes (j := 15) (t := 66) (b := false) rfl rfl (he.get 15 66 (by kernel_rfl) rfl) (op_move rfl (he.keep (.tmp 10) (by kernel_rfl)))
        · exact fun ac W hL he => stepOk_yes (j := 15) (t := 66) (b := false) rfl rfl (he.get 15 66 (by kernel_rfl) rfl) (op_idx rfl (he.get 16 67 (by kernel_rfl) rfl) (he.get 17 68 (by kernel_rfl) rfl) (hix W) rfl)
        · exact fun ac W hL he => stepOk_yes (j := 15) (t := 66) (b := false) rfl rfl (he.get 15 66 (by kernel_rfl) rfl) (op_fieldAddr rfl (he.get 18 69 (by kernel_rfl) rfl) fEdge3 rfl)
        · exact fun ac W hL he => stepOk_yes (j := 15) (t := 66) (b := false) rfl rfl (he.get 15 66 (by kernel_rfl) rfl) (op_load rfl (he.get 19 70 (by kernel_rfl) rfl) (ldI64 (Later.cell hL c66)) rfl)
        · exact fun ac W hL he => stepOk_yes (j := 15) (t := 66) (b := false) rfl rfl (he.get 15 66 (by kernel_rfl) rfl) (op_binOp rfl (he.get 20 71 (by kernel_rfl) rfl) rfl (eqg_any rfl) (cmpG hd3) rfl)
        · exact fun ac W hL he => stepOk_want rfl (op_pick (b := false) rfl (he.get 15 66 (by kernel_rfl) rfl) (he.get 21 72 (by kernel_rfl) rfl))
        intro xs W2 hL2 hx
        have v22 : xs 22 = .bool true := hx 22 (by decide)
        simp only [putL, Nat.reduceAdd, Act.put, List.setIfInBounds_toArray, List.set_cons_succ, List.set_cons_zero]
        rw [v22]
        clear hx v22
        obtain ⟨w2, hst, kR, gR⟩ := storeHop noHop_wf noHop_wf ((kW.later hL).later hL2)
        have LR : Below w.heap.size w w2 := Below.grown ((LW.step hL).step hL2) gR (Later.size ((LW.step hL).step hL2)) (fun j e => by cases e; exact hqw)
        clear gR
        go_wp2_with (first
          | (guard_target =~ wpList _ _ _ (_ :: _) _ _; refine wpList_build rfl 27 _ rfl #[] rfl (buildHop0 _) ?_)
          | (guard_target =~ wpList _ _ _ (_ :: _) _ _; refine wpList_store rfl 27 (.tmp 6) (.tmp 74) rfl (.pointer (some ⟨q, 0, none⟩)) (.agg (hopC noHop)) rfl rfl hst ?_)
          | fail)
        exact ⟨rfl, _, results_ctt rfl _ _ q 27 (hopC noHop) _ _ _ rfl rfl rfl kR Tryz.underlying27 rfl (by rw [hopC_size noHop_wf]; exact infoHop), HΦ.out _ _ ⟨⟨.slice none 0 0, by rw [HNO]; rfl, none, 0, by rw [HNO]; rfl, by rw [HNO]; exact Recs.nil _ _ _⟩, LR⟩⟩
      have hc' : d3 = false := by revert hc; cases d3 <;> simp
      clear hc
      subst hc'
      go_upto_region 7 with fail
      refine wp_region_seqL [Pr.eq (.slice (some ⟨b, o, none⟩) n c), Pr.eq (.int .i64 (k : Int)), Pr.eq (.pointer (some ⟨b, o + k * 67, none⟩)), Pr.eq (.pointer (some ⟨b, o + k * 67 + 64, none⟩)), Pr.eq (.agg #[.int .i64 ed.base, .int .i64 ed.rate]), Pr.eq (.bool true), Pr.eq (.bool false), Pr.eq (.bool false), Pr.eq (.slice (some ⟨b, o, none⟩) n c), Pr.eq (.int .i64 (k : Int)), Pr.eq (.pointer (some ⟨b, o + k * 67, none⟩)), Pr.eq (.pointer (some ⟨b, o + k * 67 + 66, none⟩)), Pr.eq (.int .i64 ed.delta), Pr.eq (.bool false), Pr.eq (.bool false), Pr.eq (.bool false), Pr.eq (.slice (some ⟨b, o, none⟩) n c), Pr.eq (.int .i64 (k : Int)), Pr.eq (.pointer (some ⟨b, o + k * 67, none⟩)), Pr.eq (.pointer (some ⟨b, o + k * 67 + 66, none⟩)), Pr.eq (.int .i64 ed.delta), Pr.eq (.bool false), Pr.eq (.bool false)] (by kernel_rfl) (by kernel_rfl) (by kernel_rfl) ⟨?_, ?_, ?_, ?_, ?_, ?_, ?_, ?_, ?_, ?_, ?_, ?_, ?_, ?_, ?_, ?_, ?_, ?_, ?_, ?_, ?_, ?_, ?_, trivial⟩ ?_
      · exact fun ac W hL he => stepOk_want rfl (op_move rfl (he.keep (.tmp 2) (by kernel_rfl)))
      · exact fun ac W hL he => stepOk_want rfl (op_move rfl (he.keep (.tmp 10) (by kernel_rfl)))
      · exact fun ac W hL he => stepOk_want rfl (op_idx rfl (he.get 0 51 (by kernel_rfl) rfl) (he.get 1 52 (by kernel_rfl) rfl) (hix W) rfl)
      · exact fun ac W hL he => stepOk_want rfl (op_fieldAddr rfl (he.get 2 53 (by kernel_rfl) rfl) fEdge2 rfl)
      · exact fun ac W hL he => stepOk_want rfl (op_load rfl (he.get 3 54 (by kernel_rfl) rfl) (run_load_fee (Later.cell hL c64) (Later.cell hL c65)) rfl)
      · intro ac W hL he; refine stepOk_want rfl ?_; have e0 : ac.eval (.tmp 55) = .agg #[.int .i64 ed.base, .int .i64 ed.rate] := (he.get 4 55 (by kernel_rfl) rfl); exact op_callF (vs := #[.agg #[.int .i64 ed.base, .int .i64 ed.rate]]) rfl (by simp only [List.map_toArray, List.map_cons, List.map_nil, e0]) (enters_of Tryz.func51 (by kernel_rfl) rfl) (((htk W)).mono fun e W' ⟨he', hb⟩ => ⟨_, he', hb, rfl⟩)
      · exact fun ac W hL he => stepOk_want rfl (op_not rfl (he.get 5 56 (by kernel_rfl) rfl) rfl)
      · exact fun ac W hL he => stepOk_want rfl (op_move rfl (he.get 6 57 (by kernel_rfl) rfl))
      · exact fun ac W hL he => stepOk_yes (j := 7) (t := 58) (b := false) rfl rfl (he.get 7 58 (by kernel_rfl) rfl) (op_move rfl (he.keep (.tmp 2) (by kernel_rfl)))
      · exact fun ac W hL he => stepOk_yes (j := 7) (t := 58) (b := false) rfl rfl (he.get 7 58 (by kernel_rfl) rfl) (op_move rfl (he.keep (.tmp 10) (by kernel_rfl)))
      · exact fun ac W hL he => stepOk_yes (j := 7) (t := 58) (b := false) rfl rfl (he.get 7 58 (by kernel_rfl) rfl) (op_idx rfl (he.get 8 59 (by kernel_rfl) rfl) (he.get 9 60 (by kernel_rfl) rfl) (hix W) rfl)
      · exact fun ac W hL he => stepOk_yes (j := 7) (t := 58) (b := false) rfl rfl (he.get 7 58 (by kernel_rfl) rfl) (op_fieldAddr rfl (he.get 10 61 (by kernel_rfl) rfl) fEdge3 rfl)
      · exact fun ac W hL he => stepOk_yes (j := 7) (t := 58) (b := false) rfl rfl (he.get 7 58 (by kernel_rfl) rfl) (op_load rfl (he.get 11 62 (by kernel_rfl) rfl) (ldI64 (Later.cell hL c66)) rfl)
      · exact fun ac W hL he => stepOk_yes (j := 7) (t := 58) (b := false) rfl rfl (he.get 7 58 (by kernel_rfl) rfl) (op_binOp rfl (he.get 12 63 (by kernel_rfl) rfl) rfl (eqg_any rfl) (cmpL hd2) rfl)
      · exact fun ac W hL he => stepOk_want rfl (op_pick (b := false) rfl (he.get 7 58 (by kernel_rfl) rfl) (he.get 13 64 (by kernel_rfl) rfl))
      · exact fun ac W hL he => stepOk_want rfl (op_move rfl (he.get 14 65 (by kernel_rfl) rfl))
      · exact fun ac W hL he => stepOk_yes (j := 15) (t := 66) (b := false) rfl rfl (he.get 15 66 (by kernel_rfl) rfl) (op_move rfl (he.keep (.tmp 2) (by kernel_rfl)))
      · exact fun ac W hL he => stepOk_yes (j := 15) (t := 66) (b := false) rfl rfl (he.get 15 66 (by kernel_rfl) rfl) (op_move rfl (he.keep (.tmp 10) (by kernel_rfl)))
      · exact fun ac W hL he => stepOk_yes (j := 15) (t := 66) (b := false) rfl rfl (he.get 15 66 (by kernel_rfl) rfl) (op_idx rfl (he.get 16 67 (by kernel_rfl) rfl) (he.get 17 68 (by kernel_rfl) rfl) (hix W) rfl)
      · exact fun ac W hL he => stepOk_yes (j := 15) (t := 66) (b := false) rfl rfl (he.get 15 66 (by kernel_rfl) rfl) (op_fieldAddr rfl (he.get 18 69 (by kernel_rfl) rfl) fEdge3 rfl)
      · exact fun ac W hL he => stepOk_yes (j := 15) (t := 66) (b := false) rfl rfl (he.get 15 66 (by kernel_rfl) rfl) (op_load rfl (he.get 19 70 (by kernel_rfl) rfl) (ldI64 (Later.cell hL c66)) rfl)
      · exact fun ac W hL he => stepOk_yes (j := 15) (t := 66) (b := false) rfl rfl (he.get 15 66 (by kernel_rfl) rfl) (op_binOp rfl (he.get 20 71 (by kernel_rfl) rfl) rfl (eqg_any rfl) (cmpG hd3) rfl)
      · exact fun ac W hL he => stepOk_want rfl (op_pick (b := false) rfl (he.get 15 66 (by kernel_rfl) rfl) (he.get 21 72 (by kernel_rfl) rfl))
      intro xs W2 hL2 hx
      have v22 : xs 22 = .bool false := hx 22 (by decide)
      simp only [putL, Nat.reduceAdd, Act.put, List.setIfInBounds_toArray, List.set_cons_succ, List.set_cons_zero]
      rw [v22]
      clear hx v22
      have hLW2 := hL.step hL2
      have hown2 := hown.later hL2
      have hoks2 : ∀ e ∈ l.take (k + 1), okE e = true := by
        intro e he
        rw [List.take_add_one, List.getElem?_eq_getElem hkl, HED.out] at he
        rcases List.mem_append.1 he with h | h
        · exact HOKS.out e h
        · simp at h
          subst h
          exact hokE2
      have d64 := Later.cell hL2 c64
      have d65 := Later.cell hL2 c65
      have hlf := run_load_fee d64 d65
      have HOK2 := Lib.hid hoks2
      clear hoks2 hokE2 hown c64 c65 c66 d64 d65 hd2 hd3 htk hL HOKS HNOT
      by_cases hk0 : k = 0
      · subst hk0
        go_wp2_with fail
        go_roundw
        case rel =>
          refine ⟨1, by omega, by go_num, HOK2.out, ?_, hLW2⟩
          have e1 : (l.take (0 + 1)).tail = [] := by
            cases l with
            | nil => rfl
            | cons y ys => rfl
          rw [show (feesOf (l.take 1).tail).map feeL = (feesOf (l.take 0).tail).map feeL by rw [show l.take 1 = l.take (0 + 1) from rfl, e1]; simp [feesOf]]
          exact hown2
        case measure => simp [intOf]; omega
      · have hd3 : decide ((k : Int) > 0) = true := decide_eq_true (by omega)
        have hd4 : decide (0 < k) = true := decide_eq_true (by omega)
        have hd5 : decide ((0 : Int) < (k : Int)) = true := decide_eq_true (by omega)
        have hLA := below_new W2 (.cells #[.int .i64 ed.base, .int .i64 ed.rate] 42)
        have hownA := hown2.later hLA
        have hLLA : Later W (W2.alloc (.cells #[.int .i64 ed.base, .int .i64 ed.rate] 42)) := hLW2.step hLA
        have hrec : Recs 2 (W2.alloc (.cells #[.int .i64 ed.base, .int .i64 ed.rate] 42)) (some ⟨W2.heap.size, 0, none⟩) [feeL (ed.base, ed.rate)] :=
          Recs.row (Row.new W2 42 _) (fun l hl => by rw [List.mem_singleton.1 hl]; exact (feeL_ok _).1) (fun j v hv => by simpa [feeL] using hv)
        have hbf := buildFee1 ed.base ed.rate W2
        have hszA : W.heap.size ≤ (W2.alloc (.cells #[.int .i64 ed.base, .int .i64 ed.rate] 42)).heap.size := hLLA.size
        have hfl : ((feesOf (l.take k).tail).map feeL).length + 1 ≤ 1000000000 := by
          rw [hfk]
          omega
        clear hown2 hLA
        go_wp2_with (first
          | (guard_target =~ wpList _ _ _ (_ :: _) _ _; refine wpList_idx rfl 40 _ _ rfl (.slice (some ⟨b, o, none⟩) n c) (.int .i64 (k : Int)) rfl rfl (hix _) ?_)
          | (guard_target =~ wpList _ _ _ (_ :: _) _ _; refine wpList_load rfl 42 (.tmp 81) rfl (.pointer (some ⟨b, o + k * 67 + 64, none⟩)) rfl hlf ?_)
          | (refine wpList_buildSl rfl 97 1 _ rfl #[(0, feeV ed.base ed.rate)] rfl hbf ?_)
          | (guard_target =~ wpList _ _ _ (_ :: _) _ _; refine wpList_append_g Tryz.underlying97 infoFeeF rfl (by decide) (by decide) rfl (.tmp 77) (.tmp 83) rfl W.heap.size _ _ rfl hownA (some ⟨W2.heap.size, 0, none⟩) 1 1 [feeL (ed.base, ed.rate)] (fun l hl => by rw [List.mem_singleton.1 hl]; exact feeL_ok _) rfl rfl hrec (by simp) hfl hszA fun v9 w9 hown9 hg9 _ => ?_)
          | fail)
        have hne9 : ∀ j, (Value.slice Fb (k - 1) cF).ownBlock = some j → W.heap.size ≤ j := fun j e => (hownA.at_ j e).1
        have hLL9 : Later W w9 := Below.grown hLLA hg9 hszA (fun j e => hne9 j e)
        go_roundw
        case rel =>
          refine ⟨k + 1, by omega, by go_num, HOK2.out, ?_, hLL9⟩
          rw [show (feesOf (l.take (k + 1)).tail).map feeL = (feesOf (l.take k).tail).map feeL ++ [feeL (ed.base, ed.rate)] by
            rw [List.take_add_one, List.getElem?_eq_getElem hkl, HED.out]
            obtain ⟨y, ys, hy⟩ : ∃ y ys, l.take k = y :: ys := by
              cases hlk : l.take k with
              | nil => have := congrArg List.length hlk; rw [List.length_take, HN.out, Nat.min_eq_left (by omega)] at this; simp at this; omega
              | cons y ys => exact ⟨y, ys, rfl⟩
            rw [hy]
            simp [feesOf]]
          exact hown9
        case measure => simp [intOf]; omega
    · obtain rfl : k = n := by omega
      have hd : decide ((k : Int) < (k : Int)) = false := decide_eq_false (by omega)
      have hd' : decide (k < k) = false := decide_eq_false (by omega)
      have hall : l.all okE = true := by
        rw [List.all_eq_true]
        intro e he
        exact hoks e (by rw [List.take_of_length_le (by rw [HN.out]; exact Nat.le_refl _)]; exact he)
      have hok : okPlan a x l = true := by
        unfold okPlan
        rw [HPD.out, hall, HN.out, decide_eq_true hn1, decide_eq_true hn6]
        rfl
      obtain ⟨_, _, eF, hcF, _, hrF⟩ := hown.slice
      rw [hfk] at eF hcF
      injection eF with eF1 _ eF3
      subst eF1 eF3
      rw [List.take_of_length_le (by rw [HN.out]; exact Nat.le_refl _)] at hrF
      have hrF2 : RdV wr Fb (feesC (feesOf l.tail)) := by
        rw [feesC_eq]
        exact Recs.rdv (by decide) hrF (fun l hl => by obtain ⟨f, _, rfl⟩ := List.mem_map.1 hl; exact (feeL_ok f).1)
      have hroute := refRoute_any a Fb (k - 1) cF (feesOf l.tail) wr (by rw [feesOf, List.length_map, List.length_tail, HN.out]) (by omega) hrF2
      obtain ⟨R, hR⟩ : ∃ R, routeS a (feesOf l.tail) = R := ⟨_, rfl⟩
      obtain ⟨S, er⟩ := R
      rw [hR] at hroute
      obtain ⟨m, hm⟩ : ∃ m, S.length = m := ⟨_, rfl⟩
      simp only [hm] at hroute
      have HRT := Lib.hid hR
      have HM := Lib.hid hm
      have HOK := Lib.hid hok
      have HALL := Lib.hid hall
      have hLL := LW.step hL
      have kr := kW.later hL
      have hAr := hAW.later hL
      clear hR hm hok hall hoks hrF hrF2 hown hcF hL hAW hfk
      go_upto_region 12 with (first
        | (go_at_call 52; refine hroute.mono ?_; clear hroute; rintro e w5 ⟨⟨v, rfl, B, c5, rfl, hrd⟩, hL5⟩)
        | fail)
      have hL5' : Later wr w5 := hL5
      have hLL5 := hLL.step hL5'
      have k5 := kr.later hL5'
      have hA5 := hAr.later hL5'
      clear hL5 hL5' hLL kr hAr hd hd'
      by_cases her : er = 0
      · subst her
        have hmk : k = m := by
          have h1 := routeS_len (a := a) (fs := feesOf l.tail) (by rw [HRT.out])
          rw [HRT.out] at h1
          simp only at h1
          rw [HM.out, feesOf, List.length_map, List.length_tail, HN.out] at h1
          omega
        subst hmk
        have hz0 : ((List.replicate k (0 : Int)).map numV).toArray = expsA x l k := by have := expsA_none x l; rwa [HN.out] at this
        have hmi := run_make_ints k hnm w5
        rw [hz0] at hmi
        have kE := Row.new w5 2 (expsA x l k)
        have L6 : Later w5 (w5.alloc (.cells (expsA x l k) 2)) := below_new w5 _
        obtain ⟨gE, hgE⟩ : ∃ g, g = w5.heap.size := ⟨_, rfl⟩
        rw [← hgE] at kE hmi
        generalize w5.alloc (.cells (expsA x l k) 2) = w6 at kE L6 hmi
        have e1 : IntKind.i64.wrap ((k : Int) - 1) = ((k - 1 : Nat) : Int) := by rw [IntWalk.i64_in _ (by omega)]; omega
        have e2 : IntKind.i64.wrap ((k : Int) - 2) = (k : Int) - 2 := IntWalk.i64_in _ (by omega)
        have hix := fun W => idxInt (b := gE) (o := 0) (n := k) (c := k) (i := k - 1) (by omega) (by omega) W
        have hlast : expAt x l (k - 1) = x := expAt_last x l _ (by rw [HN.out]; omega)
        obtain ⟨v0, hv0⟩ : ∃ v, (expsA x l k)[0 + (k - 1)]? = some v := ⟨_, Array.getElem?_eq_getElem (by rw [expsA_size, HN.out]; omega)⟩
        have hst := storeI64 (o := 0 + (k - 1)) x kE hv0
        have kE7 := kE.set (0 + (k - 1)) (.int .i64 x)
        have hg7 := grown_set w6 gE (0 + (k - 1)) (.int .i64 x)
        rw [Nat.zero_add] at kE7 hg7 hst hix
        have hes := expsA_set x l (k - 1) (by rw [HN.out]; omega)
        rw [show k - 1 + 1 = k by omega, hlast] at hes
        rw [hes] at kE7
        have L7 : Later w5 (w6.setCell ⟨gE, k - 1, none⟩ (.int .i64 x)) := Below.grown L6 hg7 (Later.size L6) (fun j e => by cases e; omega)
        have hSne : S ≠ [] := fun e => by have := HM.out; rw [e] at this; simp at this; omega
        have hBg : ∀ b o, B = some ⟨b, o, none⟩ → b < gE := fun b o e => by
          subst e
          obtain ⟨b', o', e', hc'⟩ := hrd (by simpa using hSne)
          injection e' with e'
          injection e' with e1 e2
          subst e1
          rw [hgE]
          exact block_lt_of_cell (hc' 0 (by simpa using List.length_pos_iff.2 hSne))
        have hg5 : w5.heap.size ≤ gE := by omega
        have hrd7 := hrd.later L7
        clear hes hv0 hz0 kE hg7 L6 hgE
        generalize hW7 : w6.setCell ⟨gE, k - 1, none⟩ (.int .i64 x) = w7 at *
        go_wp2_with (first
          | (guard_target =~ wpList _ _ _ (_ :: _) _ _; refine wpList_idx rfl 101 _ _ rfl (.slice (some ⟨gE, 0, none⟩) k k) (.int .i64 ((k - 1 : Nat) : Int)) rfl rfl (hix _) ?_)
          | (guard_target =~ wpList _ _ _ (_ :: _) _ _; refine wpList_store rfl 2 (.tmp 103) (.tmp 102) rfl (.pointer (some ⟨gE, k - 1, none⟩)) (.int .i64 x) rfl rfl hst ?_)
          | fail)
        clear hst hmi hix e1 e2 hW7 hlast
        have k7 := k5.later L7
        have hA7 := hA5.later L7
        obtain ⟨bA, oA, hAe⟩ : ∃ b o, A = some ⟨b, o, none⟩ := by
          obtain ⟨b, o, h, -⟩ := hA7.at_ (k := 0) (by rw [List.length_map, HN.out]; omega)
          exact ⟨b, o, h⟩
        subst hAe
        have hcellA : ∀ (i : Nat) (hi : i < l.length), w7.rangeAt bA (oA + i * 67) (edgeL l[i]) := fun i hi => by
          obtain ⟨b', o', e', hc'⟩ := hA7.at_ (k := i) (by rw [List.length_map]; exact hi)
          injection e' with e'
          injection e' with e1 e2
          subst e1 e2
          rw [List.getElem_map] at hc'
          exact hc'
        have hA7g : bA < gE := by
          have h0 := range_later (hcellA 0 (by rw [HN.out]; omega)) (Later.refl w7)
          obtain ⟨b', o', e', hc'⟩ := hA5.at_ (k := 0) (by rw [List.length_map, HN.out]; omega)
          injection e' with e'
          injection e' with e1 e2
          subst e1
          rw [List.getElem_map] at hc'
          have h1 := hc' 66 (.int .i64 (l[0]'(by rw [HN.out]; omega)).delta) (by rw [Array.getElem?_toList]; exact (edgeC_num (HL.out _ (List.getElem_mem _))).2.2)
          exact Nat.lt_of_lt_of_le (block_lt_of_cell h1) hg5
        obtain ⟨bS, oS, hBe⟩ : ∃ b o, B = some ⟨b, o, none⟩ := by
          obtain ⟨b, o, h, -⟩ := hrd7 (by simpa using hSne)
          exact ⟨b, o, h⟩
        have hBS := hBg bS oS hBe
        subst hBe
        have hcellS : ∀ p, p < k → w7.cell? ⟨bS, oS + p, none⟩ = some (.int .i64 (S.getD p 0)) := fun p hp => by
          obtain ⟨b', o', e', hc'⟩ := hrd7 (by simpa using hSne)
          injection e' with e'
          injection e' with e1 e2
          subst e1 e2
          have h := hc' p (by rw [List.length_map, HM.out]; exact hp)
          rw [List.getElem_map] at h
          rw [getD_lt (by rw [HM.out]; exact hp)]
          exact h
        have HS7 := Lib.hid hcellS
        clear hcellS hrd7 hBg
        have hkN : k ≤ 6 := hn6
        obtain ⟨B7, hB7⟩ : ∃ B, B = w5.heap.size := ⟨_, rfl⟩
        have LL7 : Later w w7 := hLL5.step L7
        have hqg : q ≠ gE := by have := k5.lt; omega
        have hxx : 1 ≤ x ∧ x ≤ 2147483647 := by
          have := HPD.out
          unfold paid at this
          simp only [Bool.and_eq_true, decide_eq_true_eq] at this
          exact this.2
        have hge := expAt_ge x l HALL.out
        have HGE := Lib.hid hge
        have HA7 := Lib.hid hcellA
        have HWG : Hid (w.heap.size ≤ gE) := Lib.hid (by have := hLL5.size; omega)
        have HW5 : Hid (w5.heap.size ≤ gE ∧ bA < gE) := Lib.hid ⟨hg5, hA7g⟩
        clear hge hcellA hB7 hA7 hA5 k5 L7 hLL5 hqW kW LW hg5 hA7g B7
        go_loopw [14] (fun t wr => ∃ j : Nat, j + 1 ≤ k ∧ t = .int .i64 ((j : Int) - 1) ∧ (∀ p, j ≤ p → p < k → expAt x l p ≤ 2147483647) ∧ Row wr gE 2 (expsA x l j) ∧ KeepB (fun b => b = gE) w7 wr ∧ Below w.heap.size w wr) (fun t _ => (intOf t + 1).toNat)
        case atStart => exact ⟨k - 1, by omega, by congr 1; omega, fun p h1 h2 => by rw [expAt_last x l p (by rw [HN.out]; omega)]; exact hxx.2, kE7, ⟨Nat.le_refl _, fun _ _ _ => rfl⟩, LL7⟩
        case round =>
          obtain ⟨j, hj, rfl, hmx, kEj, hgr, LWr⟩ := hrel
          have hup : ∀ (i : Nat) (hi : i < l.length), wr.rangeAt bA (oA + i * 67) (edgeL l[i]) := fun i hi j v hv =>
            (World.cell?_of_block (hgr.block bA (block_lt_of_cell (HA7.out i hi j v hv)) (fun e => by have := HW5.out.2; omega))).trans (HA7.out i hi j v hv)
          have kqr := hgr.row k7 hqg
          by_cases hj0 : j = 0
          · subst hj0
            rw [show (((0 : Nat) : Int) - 1) = -1 from rfl]
            have hex : expAt x l 0 ≤ 2147483647 := hmx 0 (by omega) (by omega)
            have hplan : plan a x l = (firstAt x S l 0, (List.range l.length).map (stepAt a x S l), 0) := by
              unfold plan
              rw [if_pos HOK.out, HRT.out, if_pos rfl, if_pos hex]
            have HPL := Lib.hid hplan
            have hl0 : 0 < l.length := by rw [HN.out]; omega
            have hew0 := HL.out _ (List.getElem_mem hl0)
            have hupS : ∀ p, p < k → wr.cell? ⟨bS, oS + p, none⟩ = some (.int .i64 (S.getD p 0)) := fun p hp =>
              (World.cell?_of_block (hgr.block bS (block_lt_of_cell (HS7.out p hp)) (fun e => by omega))).trans (HS7.out p hp)
            have hupE : ∀ p, p < k → wr.cell? ⟨gE, 0 + p, none⟩ = some (.int .i64 (expAt x l p)) := fun p hp => by
              rw [Nat.zero_add]; exact (kEj.cell p).trans (expsA_get x l 0 p (by rw [HN.out]; exact hp) (Nat.zero_le _))
            have hF0 : firstAt x S l 0 = ⟨l[0].key, l[0].chan, S.getD 0 0, expAt x l 0⟩ := by unfold firstAt; rw [getD_lt hl0]
            have hwF : (firstAt x S l 0).wf := firstAt_wf (x := x) (S := S) HL.out hl0
            have hupH := Lib.hid hup
            have hupSH := Lib.hid hupS
            have hupEH := Lib.hid hupE
            have r0 := hup 0 hl0
            have s0 := hupS 0 (by omega)
            have e0 := hupE 0 (by omega)
            have HF0 := Lib.hid hF0
            clear hup hupS hupE hplan hmx kEj
            rw [hF0] at hwF
            clear hF0
            go_upto_region 22 with fail
            rename_i K22 hK22
            refine (wpIn_wide (n := 0)).1 ?_
            refine wpIn_region_last wide_wide [Pr.eq (.slice (some ⟨bA, oA, none⟩) k c), Pr.eq (.pointer (some ⟨bA, oA + 0 * 67, none⟩)), Pr.eq (.pointer (some ⟨bA, oA + 0 * 67, none⟩)), Pr.eq (.agg (hC l[0].key)), Pr.eq (.slice (some ⟨bA, oA, none⟩) k c), Pr.eq (.pointer (some ⟨bA, oA + 0 * 67, none⟩)), Pr.eq (.pointer (some ⟨bA, oA + 0 * 67 + 32, none⟩)), Pr.eq (.agg (hC l[0].chan)), Pr.eq (.slice (some ⟨bS, oS, none⟩) k c5), Pr.eq (.pointer (some ⟨bS, oS + 0, none⟩)), Pr.eq (.int .i64 (S.getD 0 0)), Pr.eq (.slice (some ⟨gE, 0, none⟩) k k), Pr.eq (.pointer (some ⟨gE, 0 + 0, none⟩)), Pr.eq (.int .i64 (expAt x l 0)), Pr.eq (.agg (hopC ⟨l[0].key, l[0].chan, S.getD 0 0, expAt x l 0⟩)), Pr.newT wr.heap.size 27 is66] (by kernel_rfl) (by kernel_rfl) (by kernel_rfl) (by kernel_rfl) (by kernel_rfl) (by kernel_rfl) rfl ⟨?_, ?_, ?_, ?_, ?_, ?_, ?_, ?_, ?_, ?_, ?_, ?_, ?_, ?_, ?_, ?_, trivial⟩ ?_
            · exact fun ac W hL he => stepOk_want rfl (op_move rfl (he.keep (.tmp 2) (by kernel_rfl)))
            · exact fun ac W hL he => stepOk_want rfl (op_idx rfl (he.get 0 132 (by kernel_rfl) rfl) rfl (idxEdge (i := 0) W (by omega)) rfl)
            · exact fun ac W hL he => stepOk_want rfl (op_fieldAddr rfl (he.get 1 133 (by kernel_rfl) rfl) fEdge0 rfl)
            · exact fun ac W hL he => stepOk_want rfl (op_load rfl (he.get 2 134 (by kernel_rfl) rfl) (loadHashM hew0.1 (range_later (edge_key hew0 r0) hL)) rfl)
            · exact fun ac W hL he => stepOk_want rfl (op_move rfl (he.keep (.tmp 2) (by kernel_rfl)))
            · exact fun ac W hL he => stepOk_want rfl (op_idx rfl (he.get 4 136 (by kernel_rfl) rfl) rfl (idxEdge (i := 0) W (by omega)) rfl)
            · exact fun ac W hL he => stepOk_want rfl (op_fieldAddr rfl (he.get 5 137 (by kernel_rfl) rfl) fEdge1 rfl)
            · exact fun ac W hL he => stepOk_want rfl (op_load rfl (he.get 6 138 (by kernel_rfl) rfl) (loadHashM hew0.2 (range_later (edge_chan hew0 r0) hL)) rfl)
            · exact fun ac W hL he => stepOk_want rfl (op_move rfl (he.keep (.tmp 11) (by kernel_rfl)))
            · exact fun ac W hL he => stepOk_want rfl (op_idx rfl (he.get 8 140 (by kernel_rfl) rfl) rfl (idxInt (i := 0) (by omega) (by omega) W) rfl)
            · exact fun ac W hL he => stepOk_want rfl (op_load rfl (he.get 9 141 (by kernel_rfl) rfl) (ldI64 (Later.cell hL s0)) rfl)
            · exact fun ac W hL he => stepOk_want rfl (op_move rfl (he.keep (.tmp 13) (by kernel_rfl)))
            · exact fun ac W hL he => stepOk_want rfl (op_idx rfl (he.get 11 143 (by kernel_rfl) rfl) rfl (idxInt (i := 0) (by omega) (by omega) W) rfl)
            · exact fun ac W hL he => stepOk_want rfl (op_load rfl (he.get 12 144 (by kernel_rfl) rfl) (ldI64 (Later.cell hL e0)) rfl)
            · intro ac W hL he; refine stepOk_want rfl ?_; have e0 : ac.eval (.tmp 135) = .agg (hC l[0].key) := (he.get 3 135 (by kernel_rfl) rfl); have e1 : ac.eval (.tmp 139) = .agg (hC l[0].chan) := (he.get 7 139 (by kernel_rfl) rfl); have e2 : ac.eval (.tmp 142) = .int .i64 (S.getD 0 0) := (he.get 10 142 (by kernel_rfl) rfl); have e3 : ac.eval (.tmp 145) = .int .i64 (expAt x l 0) := (he.get 13 145 (by kernel_rfl) rfl); exact op_build (vs := #[(0, .agg (hC l[0].key)), (1, .agg (hC l[0].chan)), (2, .int .i64 (S.getD 0 0)), (3, .int .i64 (expAt x l 0))]) rfl (by simp only [List.map_toArray, List.map_cons, List.map_nil, e0, e1, e2, e3]) (buildHopF hwF W) rfl
            · exact fun ac W hL he => stepOk_want rfl (op_alloc rfl (allocHop W) (below_new W _) ⟨W.heap.size, _, rfl, hL.size, hopC_size noHop_wf, Row.new W _ _⟩)
            intro xs5 W5 hL5 hxs hk5 hgt
            obtain ⟨g15, cs15, e15, hg15, hz15, hr15⟩ := hxs 15 (by decide)
            obtain ⟨W6, s1, k15, s3⟩ := run_put_row (P := Tryz.prog) (T := 27) (vs := hopC ⟨l[0].key, l[0].chan, S.getD 0 0, expAt x l 0⟩) hr15 (by rw [hopC_size hwF]; exact hz15.symm) (by rw [hopC_size hwF]; exact infoHop) (hopC_one _)
            refine last_store rfl rfl ((hgt 15 15 (by decide) (by kernel_rfl)).trans e15) ((hgt 14 146 (by decide) (by kernel_rfl)).trans (show xs5 14 = .agg (hopC ⟨l[0].key, l[0].chan, S.getD 0 0, expAt x l 0⟩) from hxs 14 (by decide))) s1 ?_
            have L6 : Later wr W6 := Below.grown hL5 s3 (Later.size hL5) (fun j e => by cases e; exact hg15)
            simp only [initL, lastL, putL, Nat.reduceAdd, Act.put, List.setIfInBounds_toArray, List.set_cons_succ, List.set_cons_zero]
            rw [e15]
            have kq6 := kqr.later L6
            have LW6 : Below w.heap.size w W6 := LWr.trans (Below.mono L6 LWr.size)
            have hqd : q ≠ g15 := by have := kqr.lt; omega
            clear hxs hk5 hgt e15 hg15 hz15 hr15 s1 s3 r0 s0 e0 hL5
            rw [← HF0.out] at k15 hwF
            have up6 : ∀ (i : Nat) (hi : i < l.length), W6.rangeAt bA (oA + i * 67) (edgeL l[i]) := fun i hi => range_later (hupH.out i hi) L6
            have upS6 : ∀ p, p < k → W6.cell? ⟨bS, oS + p, none⟩ = some (.int .i64 (S.getD p 0)) := fun p hp => Later.cell L6 (hupSH.out p hp)
            have upE6 : ∀ p, p < k → W6.cell? ⟨gE, 0 + p, none⟩ = some (.int .i64 (expAt x l p)) := fun p hp => Later.cell L6 (hupEH.out p hp)
            refine hK22 _ _ (ref_tail _ (by kernel_rfl) w W6 q g15 a x bA oA bS oS gE c c5 k l S HL.out HN.out hn6 up6 upS6 upE6 kq6 k15 hwF LW6 hqw _ (fun a' W' Sb cS hd6 h6 h7 h8 hR6 hrR LR => ?_) _ _ _ _ _ _ _ _ _ _ _ _ _ _ _ _ _ _ _ _ _ _ _ _ _ _ _ _ _ _ _ _ _ _ _ _ _ _ _ _ _ _ _ _ _ _ _ _ _ _ _ _ _ _ _ _ _ _ _ _ _ _ _ _ _ _ _ _ _ _ _ _ _ _ _ _ _ _ _ _ _ _ _ _ _ _ _ _ _ _ _ _ _ _ _ _ _ _ _ _ _ _ _ _ _ _ _ _ _ _ _ _ _ _ _ _ _ _ _ _ _ _ _ _ _ _ _ _ _ _ _ _ _ _ _ _ _ _ _ _ _ _ _ _ _ _ _ _ _ _ _ _ _ _ _ _ _ _ _ _ _ _ _ _ _ _ _ _ _ _ _ _ _ _ _ _ _ _ _ _ _ _ _ _ _ _ _)
            exact ⟨hd6, _, results_ctt rfl _ _ q 27 (hopC (firstAt x S l 0)) _ _ _ h6 h7 h8 hR6 Tryz.underlying27 rfl (by rw [hopC_size hwF]; exact infoHop), HΦ.out _ _ ⟨⟨.slice Sb k cS, by rw [HPL.out], Sb, cS, by rw [HPL.out]; simp [HN.out], by rw [HPL.out]; simp only [HN.out]; exact hrR⟩, LR⟩⟩
          · obtain ⟨i, rfl⟩ : ∃ i, j = i + 1 := ⟨j - 1, by omega⟩
            have hti : (((i + 1 : Nat) : Int) - 1) = (i : Int) := by omega
            rw [hti]
            have hd : decide ((i : Int) ≥ 0) = true := decide_eq_true (by omega)
            have hd' : decide (0 ≤ (i : Int)) = true := decide_eq_true (by omega)
            have hil : i + 1 < l.length := by rw [HN.out]; omega
            have cE1 : wr.cell? ⟨gE, 0 + (i + 1), none⟩ = some (.int .i64 (expAt x l (i + 1))) := by rw [Nat.zero_add]; exact (kEj.cell (i + 1)).trans (expsA_get x l (i + 1) (i + 1) hil (Nat.le_refl _))
            have hew := HL.out _ (List.getElem_mem hil)
            have cD := hup (i + 1) hil 66 (.int .i64 l[i + 1].delta) (by rw [Array.getElem?_toList]; exact (edgeC_num hew).2.2)
            have hsum : expAt x l (i + 1) + l[i + 1].delta = expAt x l i := by rw [expAt_succ x l i hil, getD_lt hil]
            have hgi := HGE.out i
            rw [HN.out] at hgi
            have hik : i + 1 < k := by omega
            obtain ⟨v0, hv0⟩ : ∃ v, (expsA x l (i + 1))[0 + i]? = some v := ⟨_, Array.getElem?_eq_getElem (by rw [expsA_size]; omega)⟩
            have hupH := Lib.hid hup
            have hmxH := Lib.hid hmx
            clear hup hew hti hmx
            generalize l[i + 1].delta = dl at *
            go_upto_region 19 with fail
            refine (wpIn_wide (n := 0)).1 ?_
            refine wpIn_region_last wide_wide [Pr.eq (.slice (some ⟨gE, 0, none⟩) k k), Pr.eq (.int .i64 (i : Int)), Pr.eq (.slice (some ⟨gE, 0, none⟩) k k), Pr.eq (.int .i64 (i : Int)), Pr.eq (.int .i64 ((i + 1 : Nat) : Int)), Pr.eq (.pointer (some ⟨gE, 0 + (i + 1), none⟩)), Pr.eq (.int .i64 (expAt x l (i + 1))), Pr.eq (.slice (some ⟨bA, oA, none⟩) k c), Pr.eq (.int .i64 (i : Int)), Pr.eq (.int .i64 ((i + 1 : Nat) : Int)), Pr.eq (.pointer (some ⟨bA, oA + (i + 1) * 67, none⟩)), Pr.eq (.pointer (some ⟨bA, oA + (i + 1) * 67 + 66, none⟩)), Pr.eq (.int .i64 dl), Pr.eq (.int .i64 (expAt x l (i + 1) + dl)), Pr.eq (.pointer (some ⟨gE, 0 + i, none⟩))] (by kernel_rfl) (by kernel_rfl) (by kernel_rfl) (by kernel_rfl) (by kernel_rfl) (by kernel_rfl) rfl ⟨?_, ?_, ?_, ?_, ?_, ?_, ?_, ?_, ?_, ?_, ?_, ?_, ?_, ?_, ?_, trivial⟩ ?_
            · exact fun ac W hL he => stepOk_want rfl (op_move rfl (he.keep (.tmp 13) (by kernel_rfl)))
            · exact fun ac W hL he => stepOk_want rfl (op_move rfl (he.keep (.tmp 14) (by kernel_rfl)))
            · exact fun ac W hL he => stepOk_want rfl (op_move rfl (he.keep (.tmp 13) (by kernel_rfl)))
            · exact fun ac W hL he => stepOk_want rfl (op_move rfl (he.keep (.tmp 14) (by kernel_rfl)))
            · exact fun ac W hL he => stepOk_want rfl (op_binOp rfl (he.get 3 114 (by kernel_rfl) rfl) rfl (eqg_any rfl) (addInt i (by omega) _ W) rfl)
            · exact fun ac W hL he => stepOk_want rfl (op_idx rfl (he.get 2 113 (by kernel_rfl) rfl) (he.get 4 115 (by kernel_rfl) rfl) (idxInt hik (by omega) W) rfl)
            · exact fun ac W hL he => stepOk_want rfl (op_load rfl (he.get 5 116 (by kernel_rfl) rfl) (ldI64 (Later.cell hL cE1)) rfl)
            · exact fun ac W hL he => stepOk_want rfl (op_move rfl (he.keep (.tmp 2) (by kernel_rfl)))
            · exact fun ac W hL he => stepOk_want rfl (op_move rfl (he.keep (.tmp 14) (by kernel_rfl)))
            · exact fun ac W hL he => stepOk_want rfl (op_binOp rfl (he.get 8 119 (by kernel_rfl) rfl) rfl (eqg_any rfl) (addInt i (by omega) _ W) rfl)
            · exact fun ac W hL he => stepOk_want rfl (op_idx rfl (he.get 7 118 (by kernel_rfl) rfl) (he.get 9 120 (by kernel_rfl) rfl) (idxEdge W hik) rfl)
            · exact fun ac W hL he => stepOk_want rfl (op_fieldAddr rfl (he.get 10 121 (by kernel_rfl) rfl) fEdge3 rfl)
            · exact fun ac W hL he => stepOk_want rfl (op_load rfl (he.get 11 122 (by kernel_rfl) rfl) (ldI64 (Later.cell hL cD)) rfl)
            · exact fun ac W hL he => stepOk_want rfl (op_binOp rfl (he.get 6 117 (by kernel_rfl) rfl) (he.get 12 123 (by kernel_rfl) rfl) (eqg_any rfl) (add64 (by rw [hsum]; omega) (by rw [hsum]; omega)) rfl)
            · exact fun ac W hL he => stepOk_want rfl (op_idx rfl (he.get 0 111 (by kernel_rfl) rfl) (he.get 1 112 (by kernel_rfl) rfl) (idxInt (by omega) (by omega) W) rfl)
            intro xs3 W3 hL3 hxs hk3 hgt
            have kE3 := kEj.later hL3
            have hs := storeI64 (o := 0 + i) (expAt x l (i + 1) + dl) kE3 hv0
            refine last_store rfl rfl ((hgt 14 125 (by decide) (by kernel_rfl)).trans (show xs3 14 = .pointer (some ⟨gE, 0 + i, none⟩) from hxs 14 (by decide))) ((hgt 13 124 (by decide) (by kernel_rfl)).trans (show xs3 13 = .int .i64 (expAt x l (i + 1) + dl) from hxs 13 (by decide))) hs ?_
            have kE4 := kE3.set (0 + i) (.int .i64 (expAt x l (i + 1) + dl))
            have hg4 := grown_set W3 gE (0 + i) (.int .i64 (expAt x l (i + 1) + dl))
            rw [hsum] at kE4 hg4 ⊢
            have hes : (expsA x l (i + 1)).setIfInBounds (0 + i) (.int .i64 (expAt x l i)) = expsA x l i := by rw [Nat.zero_add]; exact expsA_set x l i (by omega)
            rw [hes] at kE4
            have LW3 : Below w.heap.size w W3 := LWr.trans (Below.mono hL3 LWr.size)
            have LW4 : Below w.heap.size w (W3.setCell ⟨gE, 0 + i, none⟩ (.int .i64 (expAt x l i))) := Below.grown LW3 hg4 LW3.size (fun j e => by cases e; exact HWG.out)
            have hK4 : KeepB (fun b => b = gE) w7 (W3.setCell ⟨gE, 0 + i, none⟩ (.int .i64 (expAt x l i))) := (hgr.trans (KeepB.later hL3)).trans (KeepB.grown hg4 rfl)
            have kq4 := hK4.row k7 hqg
            have c4 : (W3.setCell ⟨gE, 0 + i, none⟩ (.int .i64 (expAt x l i))).cell? ⟨gE, 0 + i, none⟩ = some (.int .i64 (expAt x l i)) := by rw [Nat.zero_add] at kE4 ⊢; exact (kE4.cell i).trans (expsA_get x l i i (by omega) (Nat.le_refl _))
            clear hs hxs hk3 hgt kE3 hg4 hes hv0 cE1 cD kEj hgr kqr LW3 hL3 LWr
            simp only [initL, lastL, putL, Nat.reduceAdd, Act.put, List.setIfInBounds_toArray, List.set_cons_succ, List.set_cons_zero]
            generalize W3.setCell ⟨gE, 0 + i, none⟩ (.int .i64 (expAt x l i)) = W4 at *
            have hix := fun W => idxInt (b := gE) (o := 0) (n := k) (c := k) (i := i) (by omega) (by omega) W
            have hld := ldI64 c4
            clear c4 hsum
            by_cases hov : expAt x l i ≤ 2147483647
            · have hd7 : decide (expAt x l i > 2147483647) = false := decide_eq_false (by omega)
              have hd8 : decide (2147483647 < expAt x l i) = false := decide_eq_false (by omega)
              have e3 : IntKind.i64.wrap ((i : Int) - 1) = (i : Int) - 1 := IntWalk.i64_in _ (by omega)
              have hmx2 : ∀ p, i ≤ p → p < k → expAt x l p ≤ 2147483647 := fun p h1 h2 => by
                by_cases e : p = i
                · rw [e]; exact hov
                · exact hmxH.out p (by omega) h2
              have HMX := Lib.hid hmx2
              clear hmx2
              go_wp2_with (first
                | (guard_target =~ wpList _ _ _ (_ :: _) _ _; refine wpList_idx rfl 101 _ _ rfl (.slice (some ⟨gE, 0, none⟩) k k) (.int .i64 (i : Int)) rfl rfl (hix _) ?_)
                | (guard_target =~ wpList _ _ _ (_ :: _) _ _; refine wpList_load rfl 2 (.tmp 128) rfl (.pointer (some ⟨gE, 0 + i, none⟩)) rfl hld ?_)
                | fail)
              go_roundw
              case rel => exact ⟨i, by omega, rfl, HMX.out, kE4, hK4, LW4⟩
              case measure => simp [intOf]
            · have hd7 : decide (expAt x l i > 2147483647) = true := decide_eq_true (by omega)
              have hd8 : decide (2147483647 < expAt x l i) = true := decide_eq_true (by omega)
              have HNO : plan a x l = (noHop, [], 150) := by
                unfold plan
                rw [if_pos HOK.out, HRT.out, if_pos rfl, if_neg (fun h => hov (Int.le_trans (expAt_le x l HALL.out i) h))]
              obtain ⟨w2, hst, kR, gR⟩ := storeHop noHop_wf noHop_wf kq4
              have LR : Below w.heap.size w w2 := Below.grown LW4 gR LW4.size (fun j e => by cases e; exact hqw)
              clear gR
              go_wp2_with (first
                | (guard_target =~ wpList _ _ _ (_ :: _) _ _; refine wpList_idx rfl 101 _ _ rfl (.slice (some ⟨gE, 0, none⟩) k k) (.int .i64 (i : Int)) rfl rfl (hix _) ?_)
                | (guard_target =~ wpList _ _ _ (_ :: _) _ _; refine wpList_load rfl 2 (.tmp 128) rfl (.pointer (some ⟨gE, 0 + i, none⟩)) rfl hld ?_)
                | (guard_target =~ wpList _ _ _ (_ :: _) _ _; refine wpList_build rfl 27 _ rfl #[] rfl (buildHop0 _) ?_)
                | (guard_target =~ wpList _ _ _ (_ :: _) _ _; refine wpList_store rfl 27 (.tmp 6) (.tmp 131) rfl (.pointer (some ⟨q, 0, none⟩)) (.agg (hopC noHop)) rfl rfl hst ?_)
                | fail)
              exact ⟨rfl, _, results_ctt rfl _ _ q 27 (hopC noHop) _ _ _ rfl rfl rfl kR Tryz.underlying27 rfl (by rw [hopC_size noHop_wf]; exact infoHop), HΦ.out _ _ ⟨⟨.slice none 0 0, by rw [HNO]; rfl, none, 0, by rw [HNO]; rfl, by rw [HNO]; exact Recs.nil _ _ _⟩, LR⟩⟩
      · have e1 : (er == 0) = false := by simpa using her
        have HNO : plan a x l = (noHop, [], er) := by
          unfold plan
          rw [if_pos HOK.out, HRT.out, if_neg her]
        obtain ⟨w2, hst, kR, gR⟩ := storeHop noHop_wf noHop_wf (k5)
        have LR : Below w.heap.size w w2 := Below.grown (hLL5) gR (Later.size (hLL5)) (fun j e => by cases e; exact hqw)
        clear gR
        go_wp2_with (first
          | (guard_target =~ wpList _ _ _ (_ :: _) _ _; refine wpList_build rfl 27 _ rfl #[] rfl (buildHop0 _) ?_)
          | (guard_target =~ wpList _ _ _ (_ :: _) _ _; refine wpList_store rfl 27 (.tmp 6) (.tmp 93) rfl (.pointer (some ⟨q, 0, none⟩)) (.agg (hopC noHop)) rfl rfl hst ?_)
          | fail)
        exact ⟨rfl, _, results_ctt rfl _ _ q 27 (hopC noHop) _ _ _ rfl rfl rfl kR Tryz.underlying27 rfl (by rw [hopC_size noHop_wf]; exact infoHop), HΦ.out _ _ ⟨⟨.slice none 0 0, by rw [HNO]; rfl, none, 0, by rw [HNO]; rfl, by rw [HNO]; exact Recs.nil _ _ _⟩, LR⟩⟩
end Go.Proofs.YtloiaaolnfimgaaGreat
