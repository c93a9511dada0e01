/- WireNumbers: the walk. -/
import Derived.Test.YtmipaacobioakaaWr21
set_option linter.unusedVariables false
set_option linter.unusedSimpArgs false
namespace Go.Proofs.Ytmipaacobioakaa
open Go.RowKit
def Pr.nums1 (n : Int) : Pr := ⟨fun v W => ∃ g, v = .slice (some ⟨g, 0, none⟩) 1 1 ∧ RdV W (some ⟨g, 0, none⟩) [numV n], fun _ _ _ ⟨g, e, h⟩ hL => ⟨g, e, h.later hL⟩⟩
theorem buildI1 (n : Int) (w : World) : (Instr.buildSlice 29 1 #[(0, numV n)]).run Try.prog w = .ok (.slice (some ⟨w.heap.size, 0, none⟩) 1 1) (w.alloc (.cells #[numV n] 2)) := by kernel_rfl
theorem buildRf0 (A : Option Addr) (n c : Nat) (w : World) : (Instr.build 34 #[(0, .slice A n c)]).run Try.prog w = .ok (.agg (rfV A n c false)) w := by kernel_rfl
theorem own_rd {w : World} {base : Nat} {v : Value} {l : List UInt8} (h : Own 5 w base v l) : (Pr.rd l.length l).1 v w := by
  obtain ⟨A, c, e, h1, h2, h3⟩ := h.slice
  exact ⟨A, c, e, h1, h3⟩
set_option maxRecDepth 100000 in
set_option maxHeartbeats 4000000 in
theorem wireNumbers_big (n : Int) (A : Option Addr) (m c : Nat) (most : Int) (w : World) (hm : 12 < m) :
    Calls Try.prog 3 #[.int .i64 n, .slice A m c, .int .i64 most] w fun e w' => e = .returned (.bool true) ∧ Below w.heap.size w w' := by
  have hd : decide ((12 : Int) < (m : Int)) = true := decide_eq_true (by omega)
  have hd' : decide (12 < m) = true := decide_eq_true hm
  go_enter Try.func3, Try.ntmps3
  go_wp2_with (first
    | (go_at_call 9; refine (wworks_any _).mono ?_; rintro e w2 ⟨rfl, hL⟩)
    | fail)
  go_ret
  exact ⟨rfl, hL⟩
set_option maxRecDepth 100000 in
set_option maxHeartbeats 4000000 in
theorem wireNumbers_main (n : Int) (A : Option Addr) (m c : Nat) (l : List UInt8) (most : Int) (w : World) (hm : m ≤ 12) (hn : l.length = m) (hc : m ≤ c) (hcm : c ≤ 9223372036854775807) (hr : Rd w A l) :
    Calls Try.prog 3 #[.int .i64 n, .slice A m c, .int .i64 most] w fun e w' => e = .returned (.bool true) ∧ Below w.heap.size w w' := by
  have hd : decide ((12 : Int) < (m : Int)) = false := decide_eq_false (by omega)
  have hd' : decide (12 < m) = false := decide_eq_false (by omega)
  refine Calls.post fun Φ HΦ => ?_
  have HN := Lib.hid hn
  clear hn
  have hnew := new_any w
  go_enter Try.func3, Try.ntmps3
  go_upto_region 4 with (first
    | (go_at_call 10; refine hnew.mono ?_; clear hnew; rintro e w1 ⟨rfl, hw1, hL1, hlt1⟩)
    | fail)
  obtain ⟨g, hg⟩ : ∃ g, g = w.heap.size := ⟨_, rfl⟩
  rw [← hg] at hw1 hlt1 ⊢
  have HG := Lib.hid hg
  clear hg
  have hwn := wNumber_any g none [] (some ⟨w1.heap.size, 0, none⟩) 1 1 [n] (w1.alloc (.cells #[numV n] 2)) rfl (by omega) (by simp) (RdV.row (Row.new w1 2 #[numV n])) (fun b o e _ => ⟨by cases e; omega, by simp⟩) (hw1.later ((Later.refl w1).alloc _))
  have hrt : ∀ B W, RdV W B [numV n] → Calls Try.prog 12 #[.slice B 1 1] W fun e w' => e = .returned (.bool (!([n].any Wr.wrong))) ∧ W = w' := fun B W h => right_any B 1 1 [n] W rfl (by omega) h
  -- what is left once the numbers are known to be laid as the document says
  have hask : ∀ W g2, Later w W → IsRd W g2 l false → Calls Try.prog 16 #[.pointer (some ⟨g2, 0, none⟩), .agg (rfV A m c false), .agg #[.int .i64 0, .int .i64 most]] W (Asked W g2 A l (Wr.numR l false most).1.1 (Wr.numR l false most).1.2) := fun W g2 hL h => ask0_any g2 A m c l false most W HN.out hc hcm (by omega) (hr.later hL) h
  have hread : ∀ W, Later w W → Calls Try.prog 17 #[.slice A m c] W fun e w' => ∃ g, e = .returned (.pointer (some ⟨g, 0, none⟩)) ∧ IsRd w' g l false ∧ W.heap.size ≤ g ∧ Below W.heap.size W w' := fun W hL => read_any A m c l W HN.out (by omega) (hr.later hL)
  have HASK := Lib.hid hask
  have HREAD := Lib.hid hread
  clear hask hread
  cases hany : Wr.wrong n with
  | true =>
    simp only [List.any_cons, List.any_nil, hany, Bool.or_false, Bool.not_true] at hrt hwn
    have HRT := Lib.hid hrt
    clear hrt
    go_upto_region 5 with (first
      | (go_at_call 11; refine hwn.mono ?_; clear hwn; rintro e w2 (⟨_, rfl, rfl⟩ | ⟨h, _⟩); rotate_left; exact absurd h (by decide))
      | fail)
    have hL2 : Later w (w1.alloc (.cells #[numV n] 2)) := hL1.alloc _
    clear hw1 hL1 hlt1
    generalize w1.alloc (.cells #[numV n] 2) = w2 at *
    refine (wpIn_wide (n := 0)).1 ?_
    refine wpIn_region_vals wide_wide [Pr.eq (numV n), Pr.nums1 n, Pr.eq (.bool false), Pr.eq (.int .i64 2), Pr.eq (.int .i64 2), Pr.eq (.bool false), Pr.eq (.bool false), Pr.eq (.bool false), Pr.eq (.int .i64 2), Pr.eq (.int .i64 2), Pr.eq (.bool false), Pr.eq (.bool false), Pr.eq (undef), Pr.eq (undef), Pr.eq (undef), Pr.eq (undef), Pr.eq (undef), Pr.eq (undef), Pr.eq (undef), Pr.eq (.bool false), Pr.eq (.bool false)] (by kernel_rfl) (by kernel_rfl) (by kernel_rfl) (by kernel_rfl) (by kernel_rfl) ⟨?_, ?_, ?_, ?_, ?_, ?_, ?_, ?_, ?_, ?_, ?_, ?_, ?_, ?_, ?_, ?_, ?_, ?_, ?_, ?_, ?_, trivial⟩ ?_
    · exact fun ac W hL he => stepOk_want rfl (op_move rfl (he.keep (.tmp 0) (by kernel_rfl)))
    · intro ac W hL he; refine stepOk_want rfl ?_; have e0 : ac.eval (.tmp 20) = numV n := he.get 0 20 (by kernel_rfl) rfl; exact op_buildSlice (W' := _) (vs := #[(0, numV n)]) rfl (by simp only [List.map_toArray, List.map_cons, List.map_nil, e0]) (buildI1 n W) ((Later.refl W).alloc _) ⟨_, rfl, RdV.row (Row.new W _ _)⟩
    · intro ac W hL he; refine stepOk_want rfl ?_; obtain ⟨b, e0, hrd⟩ : ∃ b, ac.eval (.tmp 21) = .slice (some ⟨b, 0, none⟩) 1 1 ∧ RdV W (some ⟨b, 0, none⟩) [numV n] := he.get 1 21 (by kernel_rfl) rfl; exact op_callF (vs := #[.slice (some ⟨b, 0, none⟩) 1 1]) rfl (by simp only [List.map_toArray, List.map_cons, List.map_nil, e0]) (enters_of Try.func12 (by kernel_rfl) rfl) ((HRT.out _ W hrd).mono fun e W' ⟨he', hw'⟩ => ⟨_, he', hw' ▸ Later.refl _, rfl⟩)
    · exact fun ac W hL he => stepOk_want rfl (op_move rfl (he.keep (.tmp 8) (by kernel_rfl)))
    · intro ac W hL he; refine stepOk_want rfl ?_; have e0 : ac.eval (.tmp 23) = .int .i64 2 := (he.get 3 23 (by kernel_rfl) rfl); exact op_callF (vs := #[.int .i64 2]) rfl (by simp only [List.map_toArray, List.map_cons, List.map_nil, e0]) (enters_of Try.func13 (by kernel_rfl) rfl) ((numE_any 2 W).mono fun e W' ⟨he', hw'⟩ => ⟨_, he', hw' ▸ Later.refl _, rfl⟩)
    · exact fun ac W hL he => stepOk_want rfl (op_binOp rfl (he.get 4 24 (by kernel_rfl) rfl) rfl eqgI (eqlI _ _ _ _) rfl)
    · exact fun ac W hL he => stepOk_want rfl (op_binOp rfl (he.get 2 22 (by kernel_rfl) rfl) (he.get 5 25 (by kernel_rfl) rfl) eqgB (neqB_self false) rfl)
    · exact fun ac W hL he => stepOk_want rfl (op_move rfl (he.get 6 26 (by kernel_rfl) rfl))
    · exact fun ac W hL he => stepOk_yes (j := 7) (t := 27) (b := false) rfl rfl (he.get 7 27 (by kernel_rfl) rfl) (op_move rfl (he.keep (.tmp 8) (by kernel_rfl)))
    · intro ac W hL he; refine stepOk_yes (j := 7) (t := 27) (b := false) rfl rfl (he.get 7 27 (by kernel_rfl) rfl) ?_; have e0 : ac.eval (.tmp 28) = .int .i64 2 := (he.get 8 28 (by kernel_rfl) rfl); exact op_callF (vs := #[.int .i64 2]) rfl (by simp only [List.map_toArray, List.map_cons, List.map_nil, e0]) (enters_of Try.func13 (by kernel_rfl) rfl) ((numE_any 2 W).mono fun e W' ⟨he', hw'⟩ => ⟨_, he', hw' ▸ Later.refl _, rfl⟩)
    · exact fun ac W hL he => stepOk_yes (j := 7) (t := 27) (b := false) rfl rfl (he.get 7 27 (by kernel_rfl) rfl) (op_binOp rfl (he.get 9 29 (by kernel_rfl) rfl) rfl eqgI (eqlI _ _ _ _) rfl)
    · exact fun ac W hL he => stepOk_yes (j := 7) (t := 27) (b := false) rfl rfl (he.get 7 27 (by kernel_rfl) rfl) (op_move rfl (he.get 10 30 (by kernel_rfl) rfl))
    · exact fun ac W hL he => stepOk_no rfl rfl (he.get 11 31 (by kernel_rfl) rfl) (by decide) rfl
    · exact fun ac W hL he => stepOk_no rfl rfl (he.get 11 31 (by kernel_rfl) rfl) (by decide) rfl
    · exact fun ac W hL he => stepOk_no rfl rfl (he.get 11 31 (by kernel_rfl) rfl) (by decide) rfl
    · exact fun ac W hL he => stepOk_no rfl rfl (he.get 11 31 (by kernel_rfl) rfl) (by decide) rfl
    · exact fun ac W hL he => stepOk_no rfl rfl (he.get 11 31 (by kernel_rfl) rfl) (by decide) rfl
    · exact fun ac W hL he => stepOk_no rfl rfl (he.get 11 31 (by kernel_rfl) rfl) (by decide) rfl
    · exact fun ac W hL he => stepOk_no rfl rfl (he.get 11 31 (by kernel_rfl) rfl) (by decide) rfl
    · exact fun ac W hL he => stepOk_yes (j := 7) (t := 27) (b := false) rfl rfl (he.get 7 27 (by kernel_rfl) rfl) (op_pick (b := false) rfl (he.get 11 31 (by kernel_rfl) rfl) rfl)
    · exact fun ac W hL he => stepOk_want rfl (op_pick (b := false) rfl (he.get 7 27 (by kernel_rfl) rfl) (he.get 19 39 (by kernel_rfl) rfl))
    intro xs W hL hxs
    have he40 : xs 20 = .bool false := hxs 20 (by decide)
    have hLW := hL2.step hL
    clear hxs hL hL2
    simp only [putL, Nat.reduceAdd, Act.put, List.setIfInBounds_toArray, List.set_cons_succ, List.set_cons_zero, he40]
    clear he40
    have hrd := HREAD.out W hLW
    go_upto_region 8 with (first
      | (go_at_call 17; refine hrd.mono ?_; clear hrd; rintro e w4 ⟨g4, rfl, hr4, hg4, hb4⟩; have hL4 := hLW.call hb4; have hak := HASK.out w4 g4 hL4 hr4)
      | (go_at_call 16; refine hak.mono ?_; clear hak; rintro e w5 ⟨hs5, _, v5, rfl, D5, c5, rfl, _⟩; obtain ⟨w6, hst, k6, hg6⟩ := storeRf (A' := D5) (n' := (Wr.numR l false most).1.1.length) (c' := c5) (bad' := (Wr.numR l false most).1.2) (Row.new w5 34 (rfV none 0 0 false)))
      | (with_reducible refine wpList_alloc rfl 34 rfl (allocRf _) ?_)
      | (refine wpList_store rfl 34 (.tmp 9) (.tmp 49) rfl (.pointer (some ⟨w5.heap.size, 0, none⟩)) (.agg (rfV D5 (Wr.numR l false most).1.1.length c5 (Wr.numR l false most).1.2)) rfl rfl hst ?_)
      | fail)
    have hL5 : Later w w5 := later_of_same hL4 (Nat.le_trans hLW.size hg4) hs5
    have hL6 : Later w w6 := (hL5.alloc _).grown hg6 (by have := hL5.size; simp; omega) (fun j e => by cases e; exact hL5.size)
    go_wp2_with (first
      | (go_at_call 9; refine (wworks_any _).mono ?_; rintro e w7 ⟨rfl, hL7⟩)
      | fail)
    exact HΦ.out _ _ ⟨rfl, hL6.step hL7⟩
  | false =>
    simp only [List.any_cons, List.any_nil, hany, Bool.or_false, Bool.not_false] at hrt hwn
    obtain ⟨z, rfl⟩ : ∃ z : Nat, n = z := ⟨n.toNat, by unfold Wr.wrong at hany; simp at hany; omega⟩
    have hz : z < 9223372036854775808 := by unfold Wr.wrong at hany; simp at hany; omega
    rw [show [] ++ Wr.nums [(z : Int)] = Wr.bytes z by simp [Wr.nums, Wr.nb_nat]] at hwn
    have HRT := Lib.hid hrt
    clear hrt
    go_upto_region 5 with (first
      | (go_at_call 11; refine hwn.mono ?_; clear hwn; rintro e w2 (⟨h, _⟩ | ⟨_, rfl, r2, hw2, hwr⟩); exact absurd h (by decide))
      | fail)
    have hL2 : Later w w2 := later_of_wrote (hL1.alloc _) (by have := HG.out; omega) (fun k e => by cases e) hwr
    have hall := fun W (hL : Later w2 W) => all_any g r2 (Wr.bytes z) W (by have := Wr.bytes_le z; omega) (hw2.later hL)
    have HALL := Lib.hid hall
    clear hw1 hL1 hlt1 hwr hall hw2
    refine (wpIn_wide (n := 0)).1 ?_
    refine wpIn_region_vals wide_wide [Pr.eq (numV z), Pr.nums1 z, Pr.eq (.bool true), Pr.eq (.int .i64 0), Pr.eq (.int .i64 0), Pr.eq (.bool true), Pr.eq (.bool false), Pr.eq (.bool false), Pr.eq (.int .i64 0), Pr.eq (.int .i64 0), Pr.eq (.bool true), Pr.eq (.bool true), Pr.eq (.pointer (some ⟨g, 0, none⟩)), Pr.rd (Wr.bytes z).length (Wr.bytes z), Pr.eq (.string ⟨(Wr.bytes z).toArray⟩), Pr.eq (numV z), Pr.rd (Wr.bytes z).length (Wr.bytes z), Pr.eq (.string ⟨(Wr.bytes z).toArray⟩), Pr.eq (.bool false), Pr.eq (.bool false), Pr.eq (.bool false)] (by kernel_rfl) (by kernel_rfl) (by kernel_rfl) (by kernel_rfl) (by kernel_rfl) ⟨?_, ?_, ?_, ?_, ?_, ?_, ?_, ?_, ?_, ?_, ?_, ?_, ?_, ?_, ?_, ?_, ?_, ?_, ?_, ?_, ?_, trivial⟩ ?_
    · exact fun ac W hL he => stepOk_want rfl (op_move rfl (he.keep (.tmp 0) (by kernel_rfl)))
    · intro ac W hL he; refine stepOk_want rfl ?_; have e0 : ac.eval (.tmp 20) = numV z := he.get 0 20 (by kernel_rfl) rfl; exact op_buildSlice (W' := _) (vs := #[(0, numV z)]) rfl (by simp only [List.map_toArray, List.map_cons, List.map_nil, e0]) (buildI1 z W) ((Later.refl W).alloc _) ⟨_, rfl, RdV.row (Row.new W _ _)⟩
    · intro ac W hL he; refine stepOk_want rfl ?_; obtain ⟨b, e0, hrd⟩ : ∃ b, ac.eval (.tmp 21) = .slice (some ⟨b, 0, none⟩) 1 1 ∧ RdV W (some ⟨b, 0, none⟩) [numV z] := he.get 1 21 (by kernel_rfl) rfl; exact op_callF (vs := #[.slice (some ⟨b, 0, none⟩) 1 1]) rfl (by simp only [List.map_toArray, List.map_cons, List.map_nil, e0]) (enters_of Try.func12 (by kernel_rfl) rfl) ((HRT.out _ W hrd).mono fun e W' ⟨he', hw'⟩ => ⟨_, he', hw' ▸ Later.refl _, rfl⟩)
    · exact fun ac W hL he => stepOk_want rfl (op_move rfl (he.keep (.tmp 8) (by kernel_rfl)))
    · intro ac W hL he; refine stepOk_want rfl ?_; have e0 : ac.eval (.tmp 23) = .int .i64 0 := (he.get 3 23 (by kernel_rfl) rfl); exact op_callF (vs := #[.int .i64 0]) rfl (by simp only [List.map_toArray, List.map_cons, List.map_nil, e0]) (enters_of Try.func13 (by kernel_rfl) rfl) ((numE_any 0 W).mono fun e W' ⟨he', hw'⟩ => ⟨_, he', hw' ▸ Later.refl _, rfl⟩)
    · exact fun ac W hL he => stepOk_want rfl (op_binOp rfl (he.get 4 24 (by kernel_rfl) rfl) rfl eqgI (eqlI _ _ _ _) rfl)
    · exact fun ac W hL he => stepOk_want rfl (op_binOp rfl (he.get 2 22 (by kernel_rfl) rfl) (he.get 5 25 (by kernel_rfl) rfl) eqgB (neqB_self true) rfl)
    · exact fun ac W hL he => stepOk_want rfl (op_move rfl (he.get 6 26 (by kernel_rfl) rfl))
    · exact fun ac W hL he => stepOk_yes (j := 7) (t := 27) (b := false) rfl rfl (he.get 7 27 (by kernel_rfl) rfl) (op_move rfl (he.keep (.tmp 8) (by kernel_rfl)))
    · intro ac W hL he; refine stepOk_yes (j := 7) (t := 27) (b := false) rfl rfl (he.get 7 27 (by kernel_rfl) rfl) ?_; have e0 : ac.eval (.tmp 28) = .int .i64 0 := (he.get 8 28 (by kernel_rfl) rfl); exact op_callF (vs := #[.int .i64 0]) rfl (by simp only [List.map_toArray, List.map_cons, List.map_nil, e0]) (enters_of Try.func13 (by kernel_rfl) rfl) ((numE_any 0 W).mono fun e W' ⟨he', hw'⟩ => ⟨_, he', hw' ▸ Later.refl _, rfl⟩)
    · exact fun ac W hL he => stepOk_yes (j := 7) (t := 27) (b := false) rfl rfl (he.get 7 27 (by kernel_rfl) rfl) (op_binOp rfl (he.get 9 29 (by kernel_rfl) rfl) rfl eqgI (eqlI _ _ _ _) rfl)
    · exact fun ac W hL he => stepOk_yes (j := 7) (t := 27) (b := false) rfl rfl (he.get 7 27 (by kernel_rfl) rfl) (op_move rfl (he.get 10 30 (by kernel_rfl) rfl))
    · exact fun ac W hL he => stepOk_yes (j := 11) (t := 31) (b := true) rfl rfl (he.get 11 31 (by kernel_rfl) rfl) (op_move rfl (he.keep (.tmp 7) (by kernel_rfl)))
    · intro ac W hL he; refine stepOk_yes (j := 11) (t := 31) (b := true) rfl rfl (he.get 11 31 (by kernel_rfl) rfl) ?_; have e0 : ac.eval (.tmp 32) = .pointer (some ⟨g, 0, none⟩) := he.get 12 32 (by kernel_rfl) rfl; exact op_callF (vs := #[.pointer (some ⟨g, 0, none⟩)]) rfl (by simp only [List.map_toArray, List.map_cons, List.map_nil, e0]) (enters_of Try.func14 (by kernel_rfl) rfl) ((HALL.out W hL).mono fun e W' ⟨v, he', hown, hL'⟩ => ⟨_, he', hL', own_rd hown⟩)
    · intro ac W hL he; refine stepOk_yes (j := 11) (t := 31) (b := true) rfl rfl (he.get 11 31 (by kernel_rfl) rfl) ?_; obtain ⟨A5, c5, e0, hc5, hrd5⟩ := he.get 13 33 (by kernel_rfl) rfl; exact op_convert rfl e0 (run_string_rd (P := Try.prog) W 22 9 5 A5 _ c5 (Wr.bytes z) Try.underlying22 Try.underlying5 Try.underlying9 rfl hrd5) (Later.refl _) rfl
    · exact fun ac W hL he => stepOk_yes (j := 11) (t := 31) (b := true) rfl rfl (he.get 11 31 (by kernel_rfl) rfl) (op_move rfl (he.keep (.tmp 0) (by kernel_rfl)))
    · intro ac W hL he; refine stepOk_yes (j := 11) (t := 31) (b := true) rfl rfl (he.get 11 31 (by kernel_rfl) rfl) ?_; have e0 : ac.eval (.tmp 35) = numV z := he.get 15 35 (by kernel_rfl) rfl; exact op_callF (vs := #[numV z]) rfl (by simp only [List.map_toArray, List.map_cons, List.map_nil, e0]) (enters_of Try.func15 (by kernel_rfl) rfl) ((refNumber_any z W hz).mono fun e W' ⟨v, he', hown, hL'⟩ => ⟨_, he', hL', own_rd hown⟩)
    · intro ac W hL he; refine stepOk_yes (j := 11) (t := 31) (b := true) rfl rfl (he.get 11 31 (by kernel_rfl) rfl) ?_; obtain ⟨A5, c5, e0, hc5, hrd5⟩ := he.get 16 36 (by kernel_rfl) rfl; exact op_convert rfl e0 (run_string_rd (P := Try.prog) W 22 9 5 A5 _ c5 (Wr.bytes z) Try.underlying22 Try.underlying5 Try.underlying9 rfl hrd5) (Later.refl _) rfl
    · exact fun ac W hL he => stepOk_yes (j := 11) (t := 31) (b := true) rfl rfl (he.get 11 31 (by kernel_rfl) rfl) (op_binOp rfl (he.get 14 34 (by kernel_rfl) rfl) (he.get 17 37 (by kernel_rfl) rfl) eqgS (neqS_self _ _) rfl)
    · exact fun ac W hL he => stepOk_yes (j := 7) (t := 27) (b := false) rfl rfl (he.get 7 27 (by kernel_rfl) rfl) (op_pick (b := true) rfl (he.get 11 31 (by kernel_rfl) rfl) (he.get 18 38 (by kernel_rfl) rfl))
    · exact fun ac W hL he => stepOk_want rfl (op_pick (b := false) rfl (he.get 7 27 (by kernel_rfl) rfl) (he.get 19 39 (by kernel_rfl) rfl))
    intro xs W hL hxs
    have he40 : xs 20 = .bool false := hxs 20 (by decide)
    have hLW := hL2.step hL
    clear hxs hL hL2
    simp only [putL, Nat.reduceAdd, Act.put, List.setIfInBounds_toArray, List.set_cons_succ, List.set_cons_zero, he40]
    clear he40
    have hrd := HREAD.out W hLW
    go_upto_region 8 with (first
      | (go_at_call 17; refine hrd.mono ?_; clear hrd; rintro e w4 ⟨g4, rfl, hr4, hg4, hb4⟩; have hL4 := hLW.call hb4; have hak := HASK.out w4 g4 hL4 hr4)
      | (go_at_call 16; refine hak.mono ?_; clear hak; rintro e w5 ⟨hs5, _, v5, rfl, D5, c5, rfl, _⟩; obtain ⟨w6, hst, k6, hg6⟩ := storeRf (A' := D5) (n' := (Wr.numR l false most).1.1.length) (c' := c5) (bad' := (Wr.numR l false most).1.2) (Row.new w5 34 (rfV none 0 0 false)))
      | (with_reducible refine wpList_alloc rfl 34 rfl (allocRf _) ?_)
      | (refine wpList_store rfl 34 (.tmp 9) (.tmp 49) rfl (.pointer (some ⟨w5.heap.size, 0, none⟩)) (.agg (rfV D5 (Wr.numR l false most).1.1.length c5 (Wr.numR l false most).1.2)) rfl rfl hst ?_)
      | fail)
    have hL5 : Later w w5 := later_of_same hL4 (Nat.le_trans hLW.size hg4) hs5
    have hL6 : Later w w6 := (hL5.alloc _).grown hg6 (by have := hL5.size; simp; omega) (fun j e => by cases e; exact hL5.size)
    go_wp2_with (first
      | (go_at_call 9; refine (wworks_any _).mono ?_; rintro e w7 ⟨rfl, hL7⟩)
      | fail)
    exact HΦ.out _ _ ⟨rfl, hL6.step hL7⟩
theorem wireNumbers_walk (n : Int) (wn : (Lit.int .i64 n).wf = true) (A : Option Addr) (m c : Nat) (l : List UInt8) (most : Int) (wm : (Lit.int .i64 most).wf = true) (w : World) (hi : InBytes w A m c l) :
    Calls Try.prog 3 #[.int .i64 n, .slice A m c, .int .i64 most] w fun e w' => e = .returned (.bool true) ∧ Below w.heap.size w w' := by
  have h1 := hi.cap
  have h2 := hi.most
  unfold maxLen at h2
  by_cases hm : m ≤ 12
  · exact wireNumbers_main n A m c l most w hm hi.len h1 (by omega) hi.rd
  · exact wireNumbers_big n A m c most w (by omega)
end Go.Proofs.Ytmipaacobioakaa
