/- Money's Route: where its answer lies. -/
import Derived.Test.YtloiaaolnfimgaaGreatRc5
set_option linter.unusedVariables false
set_option linter.unusedSimpArgs false
namespace Go.Proofs.YtloiaaolnfimgaaGreat
open Go.RowKit
set_option maxRecDepth 100000 in
theorem route_fresh (a : Int) (A : Option Addr) (n c : Nat) (fs : List Fee1) (w : World) (hn : fs.length = n) (hm : n ≤ 1000) (hr : RdV w A (feesC fs)) :
    Calls Tryz.prog 48 #[.int .i64 a, .slice A n c] w fun e w' => (∃ v, e = .returned (.tuple #[v, .int .i64 (routeS a fs).2]) ∧ ∃ B c', v = .slice B (routeS a fs).1.length c' ∧ RdV w' B ((routeS a fs).1.map numV) ∧ ∀ b o, B = some ⟨b, o, none⟩ → w.heap.size ≤ b) ∧ Below w.heap.size w w' := by
  refine Calls.post fun Φ HΦ => ?_
  have HN := Lib.hid hn
  have hL0 := (Later.refl w).alloc (.cells #[.int .i64 a] 2)
  have hck := check_any (some ⟨w.heap.size, 0, none⟩) 1 1 [a] _ rfl (by omega) (rd1Z a w)
  have hcf := fun W (h : Later w W) => containsFee_any A n c fs W hn (by omega) (hr.later h)
  clear hn
  cases ha : amts [a] with
  | false =>
    rw [ha] at hck
    have hS : routeS a fs = ([], 2) := by unfold routeS; rw [ha]; rfl
    rw [hS] at HΦ
    clear hcf
    go_enter Tryz.func48, Tryz.ntmps48
    go_wp2_with (first
      | (refine wpList_buildSl rfl 101 1 _ rfl #[(0, .int .i64 _)] rfl (build1Z _ _) ?_)
      | (go_at_call 96; refine hck.mono ?_; clear hck; rintro e w1 ⟨rfl, hL1⟩)
      | fail)
    exact HΦ.out _ _ ⟨⟨_, rfl, none, 0, rfl, RdV.nil _ _, fun b o e => by cases e⟩, hL0.step hL1⟩
  | true =>
    rw [ha] at hck
    cases hb : fs.any (fun f => !rightF f) with
    | true =>
      rw [hb] at hcf
      have hS : routeS a fs = ([], 2) := by unfold routeS; rw [ha, hb]; rfl
      rw [hS] at HΦ
      go_enter Tryz.func48, Tryz.ntmps48
      go_wp2_with (first
        | (refine wpList_buildSl rfl 101 1 _ rfl #[(0, .int .i64 _)] rfl (build1Z _ _) ?_)
        | (go_at_call 96; refine hck.mono ?_; clear hck; rintro e w1 ⟨rfl, hL1⟩)
        | (go_at_call 97; refine (hcf _ (hL0.step hL1)).mono ?_; rintro e w2 ⟨rfl, hL2⟩)
        | fail)
      exact HΦ.out _ _ ⟨⟨_, rfl, none, 0, rfl, RdV.nil _ _, fun b o e => by cases e⟩, (hL0.step hL1).step hL2⟩
    | false =>
      rw [hb] at hcf
      have hS : routeS a fs = routeFrom a fs := by unfold routeS; rw [ha, hb]; rfl
      rw [hS] at HΦ
      have hmk := run_make_ints (n + 1) (by omega)
      rw [show (((n + 1 : Nat)) : Int) = (n : Int) + 1 by omega] at hmk
      have hbn : n ≤ 1000 := hm
      clear hS hb ha
      go_enter Tryz.func48, Tryz.ntmps48
      go_upto_region 4 with (first
        | (refine wpList_buildSl rfl 101 1 _ rfl #[(0, .int .i64 _)] rfl (build1Z _ _) ?_)
        | (go_at_call 96; refine hck.mono ?_; clear hck; rintro e w1 ⟨rfl, hL1⟩)
        | (go_at_call 97; refine (hcf _ (hL0.step hL1)).mono ?_; clear hcf; rintro e w2 ⟨rfl, hL2⟩)
        | fail)
      have hL3 := (hL0.step hL1).step hL2
      clear hL0 hL1 hL2 hmk
      have hrow := Row.new w2 2 ((List.replicate (n + 1) (0 : Int)).map numV).toArray
      have hcn := (hrow.cell n).trans (show _ = some (numV 0) by simp)
      have e4 := set_last (i := n) a []
      rw [List.append_nil] at e4
      have e5 : (Array.replicate (n + 1) (numV 0)).setIfInBounds n (.int .i64 a) = ((List.replicate n (0 : Int) ++ a :: []).map numV).toArray := by
        rw [← e4]
        simp
      clear hrow e4
      go_upto_region 5 with fail
      rw [show (List.replicate n (numV 0) ++ [numV a]).toArray = ((List.replicate n (0 : Int) ++ a :: []).map numV).toArray by simp]
      have hrow4 := Row.new w2 2 ((List.replicate n (0 : Int) ++ a :: []).map numV).toArray
      have hL4 := hL3.alloc (.cells ((List.replicate n (0 : Int) ++ a :: []).map numV).toArray 2)
      have hg0 := hL3.size
      obtain ⟨g, hg⟩ : ∃ g, w2.heap.size = g := ⟨_, rfl⟩
      rw [hg] at hrow4 hg0 ⊢
      clear hL3 hcn e5 hg
      generalize w2.alloc (.cells ((List.replicate n (0 : Int) ++ a :: []).map numV).toArray 2) = w3 at *
      have HG0 := Lib.hid hg0
      clear hg0
      go_wp2_with fail
      go_loopw [30] (fun t wr => ∃ (k i : Nat) (x : Int) (l : List Int), i + k = n ∧ t = .int .i64 k ∧ Later w wr ∧ routeFrom a (fs.drop i) = (x :: l, 0) ∧ l.length = k ∧ Row wr g 2 ((List.replicate i (0 : Int) ++ x :: l).map numV).toArray) (fun t _ => n - (intOf t).toNat)
      case atStart => exact ⟨0, n, a, [], by omega, rfl, hL4, by rw [List.drop_of_length_le (by rw [HN.out]; exact Nat.le_refl _)]; rfl, rfl, hrow4⟩
      case round =>
        clear hrow4 hL4
        obtain ⟨k, j, x, l, hjk, rfl, hL, hrf, hll, hrow⟩ := hrel
        by_cases hlt : k < n
        · obtain ⟨i, rfl⟩ : ∃ i, j = i + 1 := ⟨j - 1, by omega⟩
          have hd : decide ((k : Int) < (n : Int)) = true := decide_eq_true (by omega)
          have hd' : decide (k < n) = true := decide_eq_true hlt
          have hi1 : (n : Int) - 1 - (k : Int) = (i : Int) := by omega
          have hin : i < n := by omega
          have hkl : i < fs.length := by rw [HN.out]; exact hin
          obtain ⟨b, o, rfl, hc0, hc1⟩ := fees_at (hr.later hL) hkl
          obtain ⟨f, hf⟩ : ∃ f, fs[i] = f := ⟨_, rfl⟩
          rw [hf] at hc0 hc1
          have hcx : wr.cell? ⟨g, i + 1, none⟩ = some (numV x) := (hrow.cell (i + 1)).trans (by simp)
          have hci : wr.cell? ⟨g, i, none⟩ = some (numV 0) := (hrow.cell i).trans (by rw [List.getElem?_toArray, List.getElem?_map, List.getElem?_append_left (by simp)]; simp)
          have HRF := Lib.hid hrf
          have HLL := Lib.hid hll
          have HJK := Lib.hid hjk
          clear hrf hll hjk
          go_upto_region 9 with fail
          obtain ⟨s, hs⟩ : ∃ s, sendS f.1 f.2 x = s := ⟨_, rfl⟩
          obtain ⟨y, e⟩ := s
          have hsd := fun W => send_fee f.1 f.2 x W
          simp only [hs] at hsd
          have HS := Lib.hid hs
          clear hs
          refine wp_region_list [Pr.eq (.slice (some ⟨b, o, none⟩) n c), Pr.eq (.int .i64 (i : Int)), Pr.eq (.pointer (some ⟨b, o + i * 2, none⟩)), Pr.eq (feeV f.1 f.2), Pr.eq (.slice (some ⟨g, 0, none⟩) (n + 1) (n + 1)), Pr.eq (.int .i64 (i : Int)), Pr.eq (.int .i64 ((i + 1 : Nat) : Int)), Pr.eq (.pointer (some ⟨g, 0 + (i + 1), none⟩)), Pr.eq (numV x), Pr.eq (.tuple #[.int .i64 y, .int .i64 e]), Pr.eq (.tuple #[.int .i64 y, .int .i64 e]), Pr.eq (.int .i64 y), Pr.eq (.int .i64 e), Pr.eq (.int .i64 y), Pr.eq (.int .i64 e)] (by kernel_rfl) (by kernel_rfl) (by kernel_rfl) (by kernel_rfl) ⟨?_, ?_, ?_, ?_, ?_, ?_, ?_, ?_, ?_, ?_, ?_, ?_, ?_, ?_, ?_, trivial⟩ ?_
          · exact fun ac W hL he => stepOk_want rfl (op_move rfl (he.keep (.tmp 1) (by kernel_rfl)))
          · exact fun ac W hL he => stepOk_want rfl (op_move rfl (he.keep (.tmp 8) (by kernel_rfl)))
          · exact fun ac W hL he => stepOk_want rfl (op_idx rfl (he.get 0 39 (by kernel_rfl) rfl) (he.get 1 40 (by kernel_rfl) rfl) (idxFee hin hbn W) rfl)
          · exact fun ac W hL he => stepOk_want rfl (op_load rfl (he.get 2 41 (by kernel_rfl) rfl) (run_load_fee (cell_later hc0 hL) (cell_later hc1 hL)) rfl)
          · exact fun ac W hL he => stepOk_want rfl (op_move rfl (he.keep (.tmp 6) (by kernel_rfl)))
          · exact fun ac W hL he => stepOk_want rfl (op_move rfl (he.keep (.tmp 8) (by kernel_rfl)))
          · exact fun ac W hL he => stepOk_want rfl (op_binOp rfl (he.get 5 44 (by kernel_rfl) rfl) rfl rfl (addInt i (by omega) _ W) rfl)
          · exact fun ac W hL he => stepOk_want rfl (op_idx rfl (he.get 4 43 (by kernel_rfl) rfl) (he.get 6 45 (by kernel_rfl) rfl) (idxInt (by omega) (by omega) W) rfl)
          · exact fun ac W hL he => stepOk_want rfl (op_load rfl (he.get 7 46 (by kernel_rfl) rfl) (mloadInt (by rw [Nat.zero_add]; exact cell_later hcx hL)) rfl)
          · intro ac W hL he; refine stepOk_want rfl ?_; have e0 : ac.eval (.tmp 42) = feeV f.1 f.2 := (he.get 3 42 (by kernel_rfl) rfl); have e1 : ac.eval (.tmp 47) = numV x := (he.get 8 47 (by kernel_rfl) rfl); exact op_callF (vs := #[feeV f.1 f.2, numV x]) rfl (by simp only [List.map_toArray, List.map_cons, List.map_nil, e0, e1]) (enters_of Tryz.func99 (by kernel_rfl) rfl) ((hsd W).mono fun e W' ⟨he', hb⟩ => ⟨_, he', hb, rfl⟩)
          · exact fun ac W hL he => stepOk_want rfl (op_move rfl (he.get 9 48 (by kernel_rfl) rfl))
          · exact fun ac W hL he => stepOk_want rfl (op_extract rfl (he.get 10 38 (by kernel_rfl) rfl) rfl rfl)
          · exact fun ac W hL he => stepOk_want rfl (op_extract rfl (he.get 10 38 (by kernel_rfl) rfl) rfl rfl)
          · exact fun ac W hL he => stepOk_want rfl (op_assign rfl (he.get 11 49 (by kernel_rfl) rfl))
          · exact fun ac W hL he => stepOk_want rfl (op_assign rfl (he.get 12 50 (by kernel_rfl) rfl))
          intro xs W hLW hxs
          have h9 : xs 13 = .int .i64 y := hxs 13 (by decide)
          have h10 : xs 14 = .int .i64 e := hxs 14 (by decide)
          clear hxs
          simp only [putL, Nat.reduceAdd, Act.put, List.setIfInBounds_toArray, List.set_cons_succ, List.set_cons_zero, h9, h10]
          clear h9 h10
          have hLW' := hL.step hLW
          have hrowW := hrow.later hLW
          have hci' := cell_later hci hLW
          have hfz := hrowW.frozen i
          have HFF := Lib.hid hf
          clear hsd hc0 hc1 hcx hci hrow hL hLW hf
          by_cases he : e = 0
          · subst he
            go_wp2_with fail
            go_roundw
            case rel =>
              refine ⟨k + 1, i, y, x :: l, by have := HJK.out; omega, by go_num, ?_, ?_, by have := HLL.out; simp; omega, ?_⟩
              · exact Below.setCell hLW' (by exact HG0.out) _
              · have hfk := HRF.out
                have hff := HFF.out
                subst hff
                exact routeFrom_cons hkl hfk HS.out
              · have := hrowW.set i (numV y)
                rwa [set_last] at this
            case measure => simp [intOf]; omega
          · have e1 : (e != 0) = true := by simpa using he
            go_wp2_with fail
            have hR : routeFrom a fs = ([], e) := by
              have hff := HFF.out
              subst hff
              exact routeFrom_bad hkl HRF.out HS.out he
            rw [hR] at HΦ
            exact HΦ.out _ _ ⟨⟨_, rfl, none, 0, rfl, RdV.nil _ _, fun b o e => by cases e⟩, hLW'⟩
        · obtain rfl : k = n := by omega
          obtain rfl : j = 0 := by omega
          have hd : decide ((k : Int) < (k : Int)) = false := decide_eq_false (by omega)
          have hd' : decide (k < k) = false := decide_eq_false (by omega)
          rw [List.drop_zero] at hrf
          rw [hrf] at HΦ
          have hrd : RdV wr (some ⟨g, 0, none⟩) ((x :: l).map numV) := RdV.row hrow
          have HLL := Lib.hid hll
          clear hrf hrow hll
          go_wp2_with fail
          exact HΦ.out _ _ ⟨⟨_, rfl, some ⟨g, 0, none⟩, k + 1, by rw [List.length_cons, HLL.out], hrd, fun b o e => by cases e; exact HG0.out⟩, hL⟩
end Go.Proofs.YtloiaaolnfimgaaGreat
