/- Walks, secrets: works. -/
import Derived.Test.YthabgfghogdkcaaDoorSc11
set_option linter.unusedVariables false
set_option linter.unusedSimpArgs false
namespace Go.Proofs.YthabgfghogdkcaaDoor
open Go.RowKit
theorem app_cons {α : Type} (a : α) (l m : List α) : List.append (a :: l) m = a :: List.append l m := rfl
theorem app_nil {α : Type} (m : List α) : List.append [] m = m := rfl
theorem add00 (W : World) : (binOp .add 3 (.int .i64 0) (.int .i64 0)).run Tryd.prog W = .ok (.int .i64 0) W := by kernel_rfl
theorem eqlII (a : Int) (W : World) : (binOp .eql 3 (.int .i64 a) (.int .i64 a)).run Tryd.prog W = .ok (.bool true) W := by
  have h : (binOp .eql 3 (.int .i64 a) (.int .i64 a)).run Tryd.prog W = .ok (.bool (a == a)) W := by kernel_rfl
  rw [h, beq_self_eq_true]
theorem eqgII {x y : Operand} {a b : Int} {W : World} : (eqGuard .eql 3 x y (.int .i64 a) (.int .i64 b)).run Tryd.prog W = .ok () W := by kernel_rfl
theorem eql6 (a : Int) (W : World) : (binOp .eql 2 (.int .i64 a) (.int .i64 a)).run Tryd.prog W = .ok (.bool true) W := by
  have h : (binOp .eql 2 (.int .i64 a) (.int .i64 a)).run Tryd.prog W = .ok (.bool (a == a)) W := by kernel_rfl
  rw [h, beq_self_eq_true]
theorem last_keep {P : Program} {Q : Exit → Act → World → Prop} {o : Oper} {a : Act} {W : World} {x : Operand} {vx : Value} (ho : o.op = .assign x) (hx : a.eval x = vx) (h : Q .normal (a.put o.dst vx) W) : LastOk P o a W Q := last_assign ho hx h
set_option maxRecDepth 100000 in
set_option maxHeartbeats 8000000 in
theorem works_yes (w : World) (hT : Tabs w) : Calls Tryd.prog 9 #[] w fun e w' => e = .returned (.bool true) ∧ Below w.heap.size w w' := by
  obtain ⟨w1, hst1, x1, hb⟩ := newHx w wX (Nat.le_of_eq wX_len)
  have HT := Lib.hid hT
  clear hT
  go_enter Tryd.func9, Tryd.ntmps9
  go_upto_region 2 with (first
    | (guard_target =~ wpList _ _ _ (_ :: _) _ _; refine wpList_buildC rfl 23 _ rfl #[(0, .int .u8 1), (1, .int .u8 2)] rfl (buildX _) ?_)
    | (with_reducible refine wpList_alloc rfl 23 rfl (allocH _) ?_)
    | (guard_target =~ wpList _ _ _ (_ :: _) _ _; refine wpList_store rfl 23 (.tmp 1) (.tmp 21) rfl (.pointer (some ⟨w.heap.size, 0, none⟩)) (.agg (hC wX)) rfl rfl hst1 ?_)
    | fail)
  obtain ⟨gx, hgx⟩ : ∃ g, g = w.heap.size := ⟨_, rfl⟩
  rw [← hgx] at x1 ⊢
  clear hgx hst1
  have hc := secDown_any wX 5 0 w1 wX_len
  rw [k_down5] at hc
  go_upto_region 3 with (first
    | (guard_target =~ wpList _ _ _ (_ :: _) _ _; refine wpList_load rfl 23 (.tmp 1) rfl (.pointer (some ⟨gx, 0, none⟩)) rfl (loadH wX_len x1) ?_)
    | (go_at_call 7; refine hc.mono ?_; clear hc; rintro e w2a ⟨rfl, hbA⟩; obtain ⟨w2b, hst, x2, hbB⟩ := newHx w2a wX (Nat.le_of_eq wX_len))
    | (with_reducible refine wpList_alloc rfl 23 rfl (allocH _) ?_)
    | (guard_target =~ wpList _ _ _ (_ :: _) _ _; refine wpList_store rfl 23 (.tmp 2) (.tmp 25) rfl (.pointer (some ⟨w2a.heap.size, 0, none⟩)) (.agg (hC wX)) rfl rfl hst ?_)
    | fail)
  obtain ⟨gx2, hgg⟩ : ∃ g, g = w2a.heap.size := ⟨_, rfl⟩
  rw [← hgg] at x2 ⊢
  have hbN : Below w1.heap.size w1 w2b := hbA.trans (hbB.mono hbA.size)
  have x1 := x1.belowAll hbN
  have hb := hb.trans (hbN.mono hb.size)
  clear hgg hst hbA hbB hbN
  have hc := secDown_any wX 32 0 w2b wX_len
  rw [k_down32] at hc
  go_upto_region 4 with (first
    | (guard_target =~ wpList _ _ _ (_ :: _) _ _; refine wpList_load rfl 23 (.tmp 1) rfl (.pointer (some ⟨gx, 0, none⟩)) rfl (loadH wX_len x1) ?_)
    | (go_at_call 7; refine hc.mono ?_; clear hc; rintro e w3a ⟨rfl, hbA⟩; obtain ⟨w3b, hst, x4, hbB⟩ := newHx w3a [] (by decide))
    | (with_reducible refine wpList_alloc rfl 23 rfl (allocH _) ?_)
    | (guard_target =~ wpList _ _ _ (_ :: _) _ _; refine wpList_store rfl 23 (.tmp 4) (.tmp 30) rfl (.pointer (some ⟨w3a.heap.size, 0, none⟩)) (.agg (hC [])) rfl rfl hst ?_)
    | fail)
  obtain ⟨gx4, hgg⟩ : ∃ g, g = w3a.heap.size := ⟨_, rfl⟩
  rw [← hgg] at x4 ⊢
  have hbN : Below w2b.heap.size w2b w3b := hbA.trans (hbB.mono hbA.size)
  have x1 := x1.belowAll hbN
  have x2 := x2.belowAll hbN
  have hb := hb.trans (hbN.mono hb.size)
  clear hgg hst hbA hbB hbN
  have hc := secret_any wX 2147483647 w3b wX_len
  rw [k_secret] at hc
  go_upto_region 5 with (first
    | (guard_target =~ wpList _ _ _ (_ :: _) _ _; refine wpList_load rfl 23 (.tmp 1) rfl (.pointer (some ⟨gx, 0, none⟩)) rfl (loadH wX_len x1) ?_)
    | (go_at_call 15; refine hc.mono ?_; clear hc; rintro e w4a ⟨rfl, hbA⟩; obtain ⟨w4b, hst, x6, hbB⟩ := newHx w4a wX (Nat.le_of_eq wX_len))
    | (with_reducible refine wpList_alloc rfl 23 rfl (allocH _) ?_)
    | (guard_target =~ wpList _ _ _ (_ :: _) _ _; refine wpList_store rfl 23 (.tmp 6) (.tmp 35) rfl (.pointer (some ⟨w4a.heap.size, 0, none⟩)) (.agg (hC wX)) rfl rfl hst ?_)
    | fail)
  obtain ⟨gx6, hgg⟩ : ∃ g, g = w4a.heap.size := ⟨_, rfl⟩
  rw [← hgg] at x6 ⊢
  have hbN : Below w3b.heap.size w3b w4b := hbA.trans (hbB.mono hbA.size)
  have x1 := x1.belowAll hbN
  have x2 := x2.belowAll hbN
  have x4 := x4.belowAll hbN
  have hb := hb.trans (hbN.mono hb.size)
  clear hgg hst hbA hbB hbN
  have hnew := knew_any w4b
  have kk := Row.new w4b 60 (kC 0 (fun _ => 0) (fun _ => []) true)
  have hbN := below_new w4b (.cells (kC 0 (fun _ => 0) (fun _ => []) true) 60)
  have l_x1 := x1.lt
  have l_x2 := x2.lt
  have l_x4 := x4.lt
  have l_x6 := x6.lt
  have x1 := x1.belowAll hbN
  have x2 := x2.belowAll hbN
  have x4 := x4.belowAll hbN
  have x6 := x6.belowAll hbN
  have hbw := hb.size
  have hb := hb.trans (hbN.mono hb.size)
  obtain ⟨gk, hgk⟩ : ∃ g, g = w4b.heap.size := ⟨_, rfl⟩
  rw [← hgk] at hnew kk
  rw [← hgk] at l_x1 l_x2 l_x4 l_x6 hbw
  obtain ⟨w5, hw5⟩ : ∃ w5, w4b.alloc (.cells (kC 0 (fun _ => 0) (fun _ => []) true) 60) = w5 := ⟨_, rfl⟩
  rw [hw5] at hnew kk hb hbN x1 x2 x4 x6
  have hgk1 : gk < w5.heap.size := kk.lt
  have HNEW := Lib.hid hnew
  clear hw5 hnew hbN hgk
  go_upto_region 6 with (first
    | (go_at_call 11; refine HNEW.out.mono ?_; clear HNEW; rintro e w5' ⟨rfl, rfl⟩)
    | fail)
  have kp : IsKeep w5' gk ((0 : Nat) : Int) ix0 sc0 := isKeep_new kk
  clear kk
  have hc := getZero gk w5' kp
  go_upto_region 7 with (first
    | (go_at_call 14; refine hc.mono ?_; clear hc; rintro e w6a ⟨rfl, hbA⟩; obtain ⟨w6b, hst, x9, hbB⟩ := newHx w6a [] (by decide))
    | (with_reducible refine wpList_alloc rfl 23 rfl (allocH _) ?_)
    | (guard_target =~ wpList _ _ _ (_ :: _) _ _; refine wpList_store rfl 23 (.tmp 9) (.tmp 41) rfl (.pointer (some ⟨w6a.heap.size, 0, none⟩)) (.agg (hC [])) rfl rfl hst ?_)
    | fail)
  obtain ⟨gx9, hgg⟩ : ∃ g, g = w6a.heap.size := ⟨_, rfl⟩
  rw [← hgg] at x9 ⊢
  have hbN : Below w5'.heap.size w5' w6b := hbA.trans (hbB.mono hbA.size)
  have x1 := x1.belowAll hbN
  have x2 := x2.belowAll hbN
  have x4 := x4.belowAll hbN
  have x6 := x6.belowAll hbN
  have l_x9 : gk < gx9 := by have := kp.row.lt; have := hbA.size; omega
  have kp := kp.of_row (kp.row.belowAll hbN)
  have hb := hb.trans (hbN.mono hb.size)
  clear hgg hst hbA hbB hbN
  have hT7 := HT.out.later hb
  refine (wpIn_wide (n := 0)).1 ?_
  refine wpIn_region_pivot wide_wide 5 [.pointer (some ⟨gk, 0, none⟩), .agg (hC wX), .int .i64 160, .pointer (some ⟨gk, 0, none⟩), .agg (hC wX), undef, .int .i64 160] (fun W => Later w6b W) (fun y W => y = .int .i64 0 ∧ Same (fun k => k < w6b.heap.size ∧ k ≠ gk) w6b W ∧ IsKeep W gk ((0 + 1 : Nat) : Int) ix1 sc1) (fun W W' h k => k.step h) (fun y W W' h k => ⟨k.1, same_step k.2.1 (same_later h), k.2.2.of_row (k.2.2.row.later h)⟩) (Later.refl _) (by kernel_rfl) (by kernel_rfl) (by kernel_rfl) (by kernel_rfl) (by kernel_rfl) (by kernel_rfl) rfl (by kernel_rfl) (by kernel_rfl) ⟨?_, ?_, ?_, ?_, ?_, ?_, ?_, trivial⟩ ?_
  · exact fun ac W dd xx he => stepOk_want rfl (op_move rfl (he.keep (.tmp 8) (by kernel_rfl)))
  · exact fun ac W dd xx he => stepOk_want rfl (op_load rfl (he.keep (.tmp 1) (by kernel_rfl)) (loadH wX_len (he.both (C := fun W => Row W gx 23 (hC wX)) (fun W h => x1.later h) (fun y W h => x1.same h.2.1 ⟨x1.lt, by omega⟩))) rfl)
  · intro ac W dd xx he; refine stepOk_want rfl ?_; have e0 : ac.eval (.tmp 43) = .pointer (some ⟨gk, 0, none⟩) := (show ac.eval (.tmp 43) = .pointer (some ⟨gk, 0, none⟩) from he.val 0 43 (by kernel_rfl) rfl rfl); have e2 : ac.eval (.tmp 44) = .agg (hC wX) := (show ac.eval (.tmp 44) = .agg (hC wX) from he.val 1 44 (by kernel_rfl) rfl rfl); exact op_callF (vs := #[.pointer (some ⟨gk, 0, none⟩), .int .i64 1, .agg (hC wX)]) rfl (by simp only [List.map_toArray, List.map_cons, List.map_nil, e0, e2, (show ac.eval (.const (.int .i64 1)) = .int .i64 1 from rfl)]) (enters_of Tryd.func13 (by kernel_rfl) rfl) (((putSecond gk W (kp.of_row (kp.row.later (he.ahead (he.early (by kernel_rfl))))))).mono fun e W' ⟨he', hb⟩ => ⟨_, he', hb, rfl⟩)
  · exact fun ac W dd xx he => stepOk_want rfl (op_move rfl (he.keep (.tmp 8) (by kernel_rfl)))
  · exact fun ac W dd xx he => stepOk_want rfl (op_load rfl (he.keep (.tmp 1) (by kernel_rfl)) (loadH wX_len (he.both (C := fun W => Row W gx 23 (hC wX)) (fun W h => x1.later h) (fun y W h => x1.same h.2.1 ⟨x1.lt, by omega⟩))) rfl)
  · intro ac W he hA; refine ⟨rfl, ?_⟩; have e46 := (show ac.eval (.tmp 46) = .pointer (some ⟨gk, 0, none⟩) from he.val 3 46 (by kernel_rfl) rfl rfl); have e47 := (show ac.eval (.tmp 47) = .agg (hC wX) from he.val 4 47 (by kernel_rfl) rfl rfl); exact op_callFK (vs := #[.pointer (some ⟨gk, 0, none⟩), .int .i64 0, .agg (hC wX)]) rfl (by simp only [List.map_toArray, List.map_cons, List.map_nil, e46, e47, (show ac.eval (.const (.int .i64 0)) = .int .i64 0 from rfl)]) (enters_of Tryd.func13 (by kernel_rfl) rfl) ((putFirst gk W (hT7.later hA) (kp.of_row (kp.row.later hA))).mono fun e W' ⟨h1, h2, h3⟩ => ⟨_, h1, _, rfl, rfl, same_step (same_later hA) h3, h2⟩)
  · exact fun ac W dd xx he => stepOk_want rfl (op_assign rfl (show ac.eval (.tmp 45) = .int .i64 160 from he.val 2 45 (by kernel_rfl) rfl rfl))
  · intro xs W y hB hx hk hg
    obtain ⟨rfl, hs, kp⟩ := hB
    have e48 := hg 5 48 (by decide) (by kernel_rfl)
    have v5 : xs 5 = .int .i64 0 := hx 5 (by decide)
    have v6 : xs 6 = .int .i64 160 := hx 6 (by decide)
    rw [v5] at e48
    refine last_assign rfl e48 ?_
    have x1 := x1.same hs ⟨x1.lt, by omega⟩
    have x2 := x2.same hs ⟨x2.lt, by omega⟩
    have x4 := x4.same hs ⟨x4.lt, by omega⟩
    have x6 := x6.same hs ⟨x6.lt, by omega⟩
    have x9 := x9.same hs ⟨x9.lt, by omega⟩
    have hb := below_same hb hs hb.size hbw
    clear hx hk hg e48 v5 hs
    simp only [initL, lastL, putL, Nat.reduceAdd, Act.put, List.setIfInBounds_toArray, List.set_cons_succ, List.set_cons_zero, v6]
    clear v6
    have hc := getFirst gk W (HT.out.later hb) kp
    go_upto_region 9 with (first
      | (go_at_call 14; refine hc.mono ?_; clear hc; rintro e w8a ⟨rfl, hbA⟩; obtain ⟨w8b, hst, x13, hbB⟩ := newHx w8a wX (Nat.le_of_eq wX_len))
      | (with_reducible refine wpList_alloc rfl 23 rfl (allocH _) ?_)
      | (guard_target =~ wpList _ _ _ (_ :: _) _ _; refine wpList_store rfl 23 (.tmp 13) (.tmp 52) rfl (.pointer (some ⟨w8a.heap.size, 0, none⟩)) (.agg (hC wX)) rfl rfl hst ?_)
      | fail)
    obtain ⟨gx13, hgg⟩ : ∃ g, g = w8a.heap.size := ⟨_, rfl⟩
    rw [← hgg] at x13 ⊢
    have hbN : Below W.heap.size W w8b := hbA.trans (hbB.mono hbA.size)
    have x1 := x1.belowAll hbN
    have x2 := x2.belowAll hbN
    have x4 := x4.belowAll hbN
    have x6 := x6.belowAll hbN
    have x9 := x9.belowAll hbN
    have kp := kp.of_row (kp.row.belowAll hbN)
    have hb := hb.trans (hbN.mono hb.size)
    clear hgg hst hbA hbB hbN
    have hc := readZero w8b
    go_upto_region 10 with (first
      | (go_at_call 18; refine hc.mono ?_; clear hc; rintro e w9a ⟨go, rfl, ko, hbA⟩)
      | fail)
    have x1 := x1.belowAll hbA
    have x2 := x2.belowAll hbA
    have x4 := x4.belowAll hbA
    have x6 := x6.belowAll hbA
    have x9 := x9.belowAll hbA
    have x13 := x13.belowAll hbA
    have kp := kp.of_row (kp.row.belowAll hbA)
    have hb := hb.trans (hbA.mono hb.size)
    clear hbA
    have hc := readNone w9a
    go_upto_region 11 with (first
      | (go_at_call 18; refine hc.mono ?_; clear hc; rintro e w10a ⟨rfl, hbA⟩)
      | fail)
    have x1 := x1.belowAll hbA
    have x2 := x2.belowAll hbA
    have x4 := x4.belowAll hbA
    have x6 := x6.belowAll hbA
    have x9 := x9.belowAll hbA
    have x13 := x13.belowAll hbA
    have kp := kp.of_row (kp.row.belowAll hbA)
    have ko := ko.belowAll hbA
    have hb := hb.trans (hbA.mono hb.size)
    clear hbA
    have hc := readOne w10a
    go_upto_region 12 with (first
      | (go_at_call 18; refine hc.mono ?_; clear hc; rintro e w11a ⟨rfl, hbA⟩)
      | fail)
    have x1 := x1.belowAll hbA
    have x2 := x2.belowAll hbA
    have x4 := x4.belowAll hbA
    have x6 := x6.belowAll hbA
    have x9 := x9.belowAll hbA
    have x13 := x13.belowAll hbA
    have kp := kp.of_row (kp.row.belowAll hbA)
    have ko := ko.belowAll hbA
    have hb := hb.trans (hbA.mono hb.size)
    clear hbA
    have hnew := knew_any w11a
    have kq := Row.new w11a 60 (kC 0 (fun _ => 0) (fun _ => []) true)
    have hbN := below_new w11a (.cells (kC 0 (fun _ => 0) (fun _ => []) true) 60)
    have ko2 := ko.belowAll hbN
    rw [kC_new] at ko2 kq
    have hsm := same_yes go w11a.heap.size 0 ix0 sc0 _ (fun _ => by simp [sc0, Sha.zeros]) ko2 kq
    have hbM := hb.trans (hbN.mono hb.size)
    have hnx := next_any gk _ ix1 sc1 w11a kp.row
    have l1 := loadH wX_len x1
    have l2 := loadH wX_len x2
    have l6 := loadH wX_len x6
    have l13 := loadH wX_len x13
    have heq := fun W => eqlSame wX wX_len W
    have hg := fun (x y : Operand) W => eqgHash .eql x y (hC wX) (hC wX) W
    have HNEW := Lib.hid hnew
    have HSM := Lib.hid hsm
    have HNX := Lib.hid hnx
    clear hnew hsm hnx hbN ko2 kq ko kp x1 x2 x4 x6 x9 x13
    simp only [app_cons, app_nil]
    go_wp2_with (first
      | (go_at_call 8; refine (num_any _ _).mono ?_; rintro e wn ⟨rfl, rfl⟩)
      | (go_at_call 22; refine HNX.out.mono ?_; rintro e wn ⟨rfl, rfl⟩)
      | (go_at_call 11; refine HNEW.out.mono ?_; rintro e wn ⟨rfl, rfl⟩)
      | (go_at_call 21; refine HSM.out.mono ?_; rintro e wn ⟨rfl, hbS⟩)
      | (guard_target =~ wpList _ _ _ (_ :: _) _ _; first
        | (refine wpList_binop rfl .add 3 3 (.tmp 69) (.tmp 71) rfl (.int .i64 0) (.int .i64 0) rfl rfl (eqg_any rfl) (add00 _) ?_)
        | (refine wpList_binop rfl .add 3 3 (.tmp 72) (.tmp 74) rfl (.int .i64 0) (.int .i64 0) rfl rfl (eqg_any rfl) (add00 _) ?_)
        | (refine wpList_binop rfl .add 3 3 (.tmp 75) (.tmp 77) rfl (.int .i64 0) (.int .i64 0) rfl rfl (eqg_any rfl) (add00 _) ?_)
        | (refine wpList_binop rfl .add 3 3 (.tmp 78) (.tmp 80) rfl (.int .i64 0) (.int .i64 0) rfl rfl (eqg_any rfl) (add00 _) ?_)
        | (refine wpList_binop rfl .eql 3 3 (.tmp 81) (.const (.int .i64 0)) rfl (.int .i64 0) (.int .i64 0) rfl rfl eqgII (eqlII _ _) ?_)
        | (refine wpList_binG (by rfl) .eql 3 _ (.tmp 90) (.const (.int .i64 2)) rfl (.int .i64 2) (.int .i64 2) rfl rfl eqgII (eqlII _ _) ?_)
        | (refine wpList_binG (by rfl) .eql 3 _ (.tmp 100) (.const (.int .i64 5)) rfl (.int .i64 5) (.int .i64 5) rfl rfl eqgII (eqlII _ _) ?_)
        | (refine wpList_binG (by rfl) .eql 3 _ (.tmp 105) (.const (.int .i64 160)) rfl (.int .i64 160) (.int .i64 160) rfl rfl eqgII (eqlII _ _) ?_)
        | (refine wpList_binG (by rfl) .eql 3 _ (.tmp 125) (.const (.int .i64 162)) rfl (.int .i64 162) (.int .i64 162) rfl rfl eqgII (eqlII _ _) ?_)
        | (refine wpList_binG (by rfl) .eql 3 _ (.tmp 130) (.const (.int .i64 162)) rfl (.int .i64 162) (.int .i64 162) rfl rfl eqgII (eqlII _ _) ?_)
        | (refine wpList_binG (by rfl) .eql 2 _ (.tmp 115) (.const (.int .i64 1)) rfl (.int .i64 1) (.int .i64 1) rfl rfl eqg64 (eql6 _ _) ?_)
        | (refine wpList_loadG (by rfl) 23 (.tmp 1) rfl (.pointer (some ⟨gx, 0, none⟩)) rfl l1 ?_)
        | (refine wpList_loadG (by rfl) 23 (.tmp 2) rfl (.pointer (some ⟨gx2, 0, none⟩)) rfl l2 ?_)
        | (refine wpList_loadG (by rfl) 23 (.tmp 6) rfl (.pointer (some ⟨gx6, 0, none⟩)) rfl l6 ?_)
        | (refine wpList_loadG (by rfl) 23 (.tmp 13) rfl (.pointer (some ⟨gx13, 0, none⟩)) rfl l13 ?_)
        | (refine wpList_binG (by rfl) .eql 23 _ (.tmp 84) (.tmp 85) rfl (.agg (hC wX)) (.agg (hC wX)) rfl rfl (hg _ _ _) (heq _) ?_)
        | (refine wpList_binG (by rfl) .eql 23 _ (.tmp 94) (.tmp 95) rfl (.agg (hC wX)) (.agg (hC wX)) rfl rfl (hg _ _ _) (heq _) ?_)
        | (refine wpList_binG (by rfl) .eql 23 _ (.tmp 109) (.tmp 110) rfl (.agg (hC wX)) (.agg (hC wX)) rfl rfl (hg _ _ _) (heq _) ?_))
      | fail)
    go_ret
    exact ⟨rfl, hbM.trans (hbS.mono hbM.size)⟩
end Go.Proofs.YthabgfghogdkcaaDoor
