/- Walks: the law SecretsDown. -/
import Derived.Test.YthabgfghogdkcaaDoorSc12
set_option linter.unusedVariables false
set_option linter.unusedSimpArgs false
namespace Go.Proofs.YthabgfghogdkcaaDoor
open Go.RowKit
theorem num_is (n : Int) (w : World) : Calls Tryd.prog 8 #[.int .i64 n] w fun e w' => e = .returned (.int .i64 n) ∧ w' = w := (num_any n w).mono fun e w' ⟨h1, h2⟩ => ⟨h1, h2.symm⟩
theorem inB_cases (n m : Int) : (n < 0 ∧ inB n m = false) ∨ (0 ≤ n ∧ m < n ∧ inB n m = false) ∨ (0 ≤ n ∧ n ≤ m ∧ inB n m = true) := by
  rcases Int.lt_or_le n 0 with h | h
  · exact .inl ⟨h, inB_no (.inl h)⟩
  · rcases Int.lt_or_le m n with h2 | h2
    · exact .inr (.inl ⟨h, h2, inB_no (.inr h2)⟩)
    · exact .inr (.inr ⟨h, h2, inB_yes h h2⟩)
set_option maxRecDepth 100000 in
set_option maxHeartbeats 8000000 in
theorem secretsDown_bad (l : List UInt8) (n ix : Int) (w : World) (hl : l.length = 32) (hT : Tabs w) (hbad : (inB n 31 && inB ix 2147483647) = false) :
    Calls Tryd.prog 3 #[.agg (hC l), .int .i64 n, .int .i64 ix] w fun e w' => e = .returned (.bool true) ∧ Below w.heap.size w w' := by
  have hR : Sec.downR l n ix = ([], 2) := by unfold Sec.downR; rw [if_neg (by rw [hbad]; decide)]
  have hbx := boxH l hl
  have hr3 := Row.new w 23 (hC l)
  have hb1 := below_new w (.cells (hC l) 23)
  have hld3 := loadH hl hr3
  have hc := secDown_any l n ix (w.alloc (.cells (hC l) 23)) hl
  rw [hR] at hc
  have HT := Lib.hid hT
  have HC := Lib.hid hc
  clear hR hc hT
  have hways : (decide (n < 0) = true) ∨ (decide (n < 0) = false ∧ decide (31 < n) = true) ∨ (decide (n < 0) = false ∧ decide (31 < n) = false ∧ decide (ix < 0) = true) ∨ (decide (n < 0) = false ∧ decide (31 < n) = false ∧ decide (ix < 0) = false ∧ decide (2147483647 < ix) = true) := by
    rcases inB_cases n 31 with ⟨h, _⟩ | ⟨h, h2, _⟩ | ⟨h, h2, h3⟩
    · exact .inl (decide_eq_true h)
    · exact .inr (.inl ⟨decide_eq_false (by omega), decide_eq_true h2⟩)
    · rw [h3, Bool.true_and] at hbad
      rcases inB_cases ix 2147483647 with ⟨k, _⟩ | ⟨k, k2, _⟩ | ⟨k, k2, k3⟩
      · exact .inr (.inr (.inl ⟨decide_eq_false (by omega), decide_eq_false (by omega), decide_eq_true k⟩))
      · exact .inr (.inr (.inr ⟨decide_eq_false (by omega), decide_eq_false (by omega), decide_eq_false (by omega), decide_eq_true k2⟩))
      · rw [k3] at hbad; cases hbad
  clear hbad
  go_enter Tryd.func3, Tryd.ntmps3
  go_upto_region 2 with (first
    | (with_reducible refine wpList_box rfl 23 (.tmp 0) rfl (.agg (hC l)) rfl (hbx _) ?_)
    | (guard_target =~ wpList _ _ _ (_ :: _) _ _; refine wpList_load rfl 23 (.tmp 3) rfl (.pointer (some ⟨w.heap.size, 0, none⟩)) rfl hld3 ?_)
    | (go_at_call 7; refine HC.out.mono ?_; rintro e w2 ⟨rfl, hb2⟩; obtain ⟨w3, hst, k7, hb3⟩ := newHx w2 [] (by decide))
    | (with_reducible refine wpList_alloc rfl 23 rfl (allocH _) ?_)
    | (guard_target =~ wpList _ _ _ (_ :: _) _ _; refine wpList_store rfl 23 (.tmp 7) (.tmp 14) rfl (.pointer (some ⟨w2.heap.size, 0, none⟩)) (.agg (hC [])) rfl rfl hst ?_)
    | fail)
  have hb23 := hb2.trans (hb3.mono hb2.size)
  have hb := hb1.trans (hb23.mono hb1.size)
  have hwk := works_yes w3 (HT.out.later hb)
  obtain ⟨g7, hg7⟩ : ∃ g, g = w2.heap.size := ⟨_, rfl⟩
  rw [← hg7] at k7 ⊢
  have hld7 := loadHz (h := []) (by decide) k7
  have HW := Lib.hid hwk
  clear hg7 hwk hst hb3 hb2 hb23 hld3 hr3 hb1 HC hbx
  rcases hways with h1 | ⟨h1, h2⟩ | ⟨h1, h2, h3⟩ | ⟨h1, h2, h3, h4⟩
  all_goals
    go_wp2_with (first
      | (guard_target =~ wpList _ _ _ (_ :: _) _ _; first
        | (refine wpList_load rfl 23 (.tmp 7) rfl (.pointer (some ⟨g7, 0, none⟩)) rfl hld7 ?_)
        | (refine wpList_buildC rfl 23 _ rfl #[] rfl (buildH0 _) ?_)
        | (refine wpList_binop rfl .eql 23 23 (.tmp 30) (.tmp 31) rfl (.agg (hC [])) (.agg (hC [])) rfl rfl (eqgHH _ _ _) (eqlHH _) ?_))
      | (go_at_call 8; refine (num_any _ _).mono ?_; rintro e wn ⟨rfl, rfl⟩)
      | (go_at_call 9; refine HW.out.mono ?_; rintro e wn ⟨rfl, hbw⟩)
      | fail)
    go_ret
    exact ⟨rfl, hb.trans (hbw.mono hb.size)⟩
set_option maxRecDepth 100000 in
set_option maxHeartbeats 8000000 in
theorem secretsDown_good (l : List UInt8) (n ix : Nat) (w : World) (hl : l.length = 32) (hT : Tabs w) (hn : n ≤ 31) (hix : ix ≤ 2147483647) :
    Calls Tryd.prog 3 #[.agg (hC l), .int .i64 (n : Int), .int .i64 (ix : Int)] w fun e w' => e = .returned (.bool true) ∧ Below w.heap.size w w' := by
  have hR : Sec.downR l (n : Int) (ix : Int) = (Sec.down l n ix, 0) := by
    unfold Sec.downR
    rw [if_pos (by rw [inB_yes (by omega) (by omega), inB_yes (by omega) (by omega)]; rfl)]
    rfl
  have hbx := boxH l hl
  have hr3 := Row.new w 23 (hC l)
  have hb1 := below_new w (.cells (hC l) 23)
  have hld3 := loadH hl hr3
  have hc := secDown_any l n ix (w.alloc (.cells (hC l) 23)) hl
  have hrd := fun W => refDown_any l n ix W hl hn (by omega)
  have hyl : (Sec.down l n ix).length = 32 := Sec.down_len _ _ _ hl
  rw [hR] at hc
  generalize Sec.down l n ix = y at *
  have HT := Lib.hid hT
  have HC := Lib.hid hc
  have HRD := Lib.hid hrd
  have HYL := Lib.hid hyl
  have HL := Lib.hid hl
  clear hR hc hT hrd hyl hl
  have d1 : decide ((n : Int) < 0) = false := decide_eq_false (by omega)
  have d2 : decide ((31 : Int) < (n : Int)) = false := decide_eq_false (by omega)
  have d3 : decide ((ix : Int) < 0) = false := decide_eq_false (by omega)
  have d4 : decide ((2147483647 : Int) < (ix : Int)) = false := decide_eq_false (by omega)
  go_enter Tryd.func3, Tryd.ntmps3
  go_upto_region 2 with (first
    | (with_reducible refine wpList_box rfl 23 (.tmp 0) rfl (.agg (hC l)) rfl (hbx _) ?_)
    | (guard_target =~ wpList _ _ _ (_ :: _) _ _; refine wpList_load rfl 23 (.tmp 3) rfl (.pointer (some ⟨w.heap.size, 0, none⟩)) rfl hld3 ?_)
    | (go_at_call 7; refine HC.out.mono ?_; rintro e w2 ⟨rfl, hb2⟩; obtain ⟨w3, hst, k7, hb3⟩ := newHx w2 y (Nat.le_of_eq HYL.out))
    | (with_reducible refine wpList_alloc rfl 23 rfl (allocH _) ?_)
    | (guard_target =~ wpList _ _ _ (_ :: _) _ _; refine wpList_store rfl 23 (.tmp 7) (.tmp 14) rfl (.pointer (some ⟨w2.heap.size, 0, none⟩)) (.agg (hC y)) rfl rfl hst ?_)
    | fail)
  have hb23 := hb2.trans (hb3.mono hb2.size)
  have hb := hb1.trans (hb23.mono hb1.size)
  have k3 := hr3.belowAll hb23
  obtain ⟨g3, hg3⟩ : ∃ g, g = w.heap.size := ⟨_, rfl⟩
  rw [← hg3] at k3 ⊢
  obtain ⟨g7, hg7⟩ : ∃ g, g = w2.heap.size := ⟨_, rfl⟩
  rw [← hg7] at k7 ⊢
  clear hg3 hg7 hst hb3 hb2 hb23 hld3 hr3 hb1 HC hbx
  go_upto_region 4 with fail
  refine (wpIn_wide (n := 0)).1 ?_
  clear d1 d2 d3 d4
  refine wpIn_region_vals wide_wide [Pr.eq (.agg (hC y)), Pr.eq (.agg (hC l)), Pr.eq (.int .i64 (n : Int)), Pr.eq (.int .i64 (ix : Int)), Pr.eq (.agg (hC y)), Pr.eq (.bool true), Pr.eq (.bool true), Pr.eq (.int .i64 0), Pr.eq (.int .i64 0), Pr.eq (.bool true), Pr.eq (.bool true), Pr.eq (.bool true), Pr.eq (.bool true), Pr.eq (.bool true), Pr.eq (.bool true)] (by kernel_rfl) (by kernel_rfl) (by kernel_rfl) (by kernel_rfl) (by kernel_rfl) ⟨?_, ?_, ?_, ?_, ?_, ?_, ?_, ?_, ?_, ?_, ?_, ?_, ?_, ?_, ?_, trivial⟩ ?_
  · exact fun ac W hL he => stepOk_want rfl (op_load rfl (he.keep (.tmp 7) (by kernel_rfl)) (loadH HYL.out (k7.later hL)) rfl)
  · exact fun ac W hL he => stepOk_want rfl (op_load rfl (he.keep (.tmp 3) (by kernel_rfl)) (loadH HL.out (k3.later hL)) rfl)
  · exact fun ac W hL he => stepOk_want rfl (op_move rfl (he.keep (.tmp 1) (by kernel_rfl)))
  · exact fun ac W hL he => stepOk_want rfl (op_move rfl (he.keep (.tmp 2) (by kernel_rfl)))
  · intro ac W hL he; refine stepOk_want rfl ?_; have e0 : ac.eval (.tmp 42) = .agg (hC l) := (he.get 1 42 (by kernel_rfl) rfl); have e1 : ac.eval (.tmp 43) = .int .i64 (n : Int) := (he.get 2 43 (by kernel_rfl) rfl); have e2 : ac.eval (.tmp 44) = .int .i64 (ix : Int) := (he.get 3 44 (by kernel_rfl) rfl); exact op_callF (vs := #[.agg (hC l), .int .i64 (n : Int), .int .i64 (ix : Int)]) rfl (by simp only [List.map_toArray, List.map_cons, List.map_nil, e0, e1, e2]) (enters_of Tryd.func10 (by kernel_rfl) rfl) (((HRD.out W)).mono fun e W' ⟨he', hb⟩ => ⟨_, he', hb, rfl⟩)
  · exact fun ac W hL he => stepOk_want rfl (op_binOp rfl (he.get 0 41 (by kernel_rfl) rfl) (he.get 4 45 (by kernel_rfl) rfl) (eqgHash _ _ _ _ _ _) (eqlSame y HYL.out _) rfl)
  · exact fun ac W hL he => stepOk_want rfl (op_move rfl (he.get 5 46 (by kernel_rfl) rfl))
  · exact fun ac W hL he => stepOk_yes (j := 6) (t := 47) (b := true) rfl rfl (he.get 6 47 (by kernel_rfl) rfl) (op_move rfl (he.keep (.tmp 8) (by kernel_rfl)))
  · intro ac W hL he; refine stepOk_yes (j := 6) (t := 47) (b := true) rfl rfl (he.get 6 47 (by kernel_rfl) rfl) ?_; have e0 : ac.eval (.tmp 48) = .int .i64 0 := (he.get 7 48 (by kernel_rfl) rfl); exact op_callF (vs := #[.int .i64 0]) rfl (by simp only [List.map_toArray, List.map_cons, List.map_nil, e0]) (enters_of Tryd.func8 (by kernel_rfl) rfl) (((num_is 0 W)).mono fun e W' ⟨he', hw'⟩ => ⟨_, he', hw' ▸ Later.refl _, rfl⟩)
  · exact fun ac W hL he => stepOk_yes (j := 6) (t := 47) (b := true) rfl rfl (he.get 6 47 (by kernel_rfl) rfl) (op_binOp rfl (he.get 8 49 (by kernel_rfl) rfl) rfl eqgII (eqlII 0 _) rfl)
  · exact fun ac W hL he => stepOk_want rfl (op_pick (b := true) rfl (he.get 6 47 (by kernel_rfl) rfl) (he.get 9 50 (by kernel_rfl) rfl))
  · exact fun ac W hL he => stepOk_want rfl (op_move rfl (he.get 10 51 (by kernel_rfl) rfl))
  · intro ac W hL he; refine stepOk_yes (j := 11) (t := 52) (b := true) rfl rfl (he.get 11 52 (by kernel_rfl) rfl) ?_; exact op_callF (vs := #[]) rfl (by simp) (enters_of Tryd.func9 (by kernel_rfl) rfl) (((works_yes W (HT.out.later (hb.trans (hL.mono hb.size))))).mono fun e W' ⟨he', hb⟩ => ⟨_, he', hb, rfl⟩)
  · exact fun ac W hL he => stepOk_want rfl (op_pick (b := true) rfl (he.get 11 52 (by kernel_rfl) rfl) (he.get 12 53 (by kernel_rfl) rfl))
  · exact fun ac W hL he => stepOk_want rfl (op_assign rfl (he.get 13 54 (by kernel_rfl) rfl))
  intro xs W hL2 hxs
  have h14 : xs 14 = .bool true := hxs 14 (by decide)
  clear hxs
  simp only [putL, Nat.reduceAdd, Act.put, List.setIfInBounds_toArray, List.set_cons_succ, List.set_cons_zero, h14]
  clear h14
  go_wp2_with fail
  go_ret
  exact ⟨rfl, hb.trans (hL2.mono hb.size)⟩
theorem secretsDown_walk (l : List UInt8) (hl : l.length = 32) (n : Int) (hn : (Lit.int .i64 n).wf = true) (ix : Int) (hix : (Lit.int .i64 ix).wf = true) (w : World) (hT : Tabs w) :
    Calls Tryd.prog 3 #[.agg (l.map byteV).toArray, .int .i64 n, .int .i64 ix] w fun e w' => e = .returned (.bool true) ∧ Below w.heap.size w w' := by
  rw [← hC_full l hl]
  by_cases h : (inB n 31 && inB ix 2147483647) = true
  · obtain ⟨h1, h2⟩ := Bool.and_eq_true_iff.1 h
    obtain ⟨k, rfl, hk⟩ := inB_nat h1
    obtain ⟨j, rfl, hj⟩ := inB_nat h2
    exact secretsDown_good l k j w hl hT (by omega) (by omega)
  · exact secretsDown_bad l n ix w hl hT (not_true h)
end Go.Proofs.YthabgfghogdkcaaDoor
