/- WireLays: the walk. -/
import Derived.Test.YtmipaacobioakaaWr37
set_option linter.unusedVariables false
set_option linter.unusedSimpArgs false
namespace Go.Proofs.Ytmipaacobioakaa
open Go.RowKit
def Wr.lays (xs : List ActL) : List UInt8 := (xs.map Wr.lay).flatten
theorem Wr.lays_snoc (xs : List ActL) (i : Nat) (h : i < xs.length) : Wr.lays (xs.take (i + 1)) = Wr.lays (xs.take i) ++ Wr.lay xs[i] := by
  unfold Wr.lays
  rw [List.take_succ_eq_append_getElem h, List.map_append, List.flatten_append]
  simp
theorem unopNot {b : Bool} {P : Program} {W : World} : (Op.unary .not (.bool b)).run P W = .ok (.bool (!b)) W := by first | rfl | go_simp
set_option maxRecDepth 100000 in
set_option maxHeartbeats 8000000 in
theorem wireLays_main (A : Option Addr) (n c : Nat) (xs : List ActL) (w : World) (hn : xs.length = n) (hm : n ≤ 30) (hall : xs.all Wr.small = true) (hx : Acts w A xs) :
    Calls Try.prog 5 #[.slice A n c] w fun e w' => e = .returned (.bool true) ∧ Below w.heap.size w w' := by
  refine Calls.post fun Φ HΦ => ?_
  have hfew := few_any A n c xs 30 w hn (by omega) (by omega) hx
  rw [hall, show decide (n ≤ 30) = true from decide_eq_true hm] at hfew
  have HN := Lib.hid hn
  have HALL := Lib.hid hall
  clear hn hall
  have hnew := new_any w
  go_enter Try.func5, Try.ntmps5
  go_upto_region 4 with (first
    | (go_at_call 24; refine hfew.mono ?_; clear hfew; rintro e w' ⟨rfl, hww⟩; replace hww := hww.symm; subst hww)
    | (go_at_call 10; refine hnew.mono ?_; clear hnew; rintro e w1 ⟨rfl, hw1, hL1, hlt1⟩)
    | fail)
  obtain ⟨g, hg⟩ : ∃ g, g = w.heap.size := ⟨_, rfl⟩
  rw [← hg] at hw1 hlt1 ⊢
  have hg0 : w.heap.size ≤ g := Nat.le_of_eq hg.symm
  clear hg
  go_wp2_with fail
  go_loopw [4, 5] (fun v t wr => ∃ (i : Nat) (r : Option Nat), i ≤ n ∧ t = .int .i64 (i : Int) ∧ Later w wr ∧ IsWr wr g r (Wr.lays (xs.take i)) ∧ (∀ k, r = some k → w.heap.size ≤ k) ∧ Own 5 wr w.heap.size v (Wr.lays (xs.take i)) ∧ (∀ k, v.ownBlock = some k → k ≠ g ∧ some k ≠ r)) (fun _ t _ => n - (intOf t).toNat)
  case atStart => exact ⟨0, none, by omega, rfl, hL1, by simpa [Wr.lays] using hw1, by simp, by simpa [Wr.lays] using Own.nil _ _ _, by simp [Value.ownBlock]⟩
  case round =>
    clear hw1 hL1 hlt1
    obtain ⟨i, r, hi, rfl, hLr, hwr, hr0, hown, hvb⟩ := hrel
    by_cases hlt : i < n
    · have hd : decide ((i : Int) < (n : Int)) = true := decide_eq_true (by omega)
      have hd' : decide (i < n) = true := decide_eq_true hlt
      have hil : i < xs.length := by rw [HN.out]; exact hlt
      obtain ⟨b, o, rfl, hcs⟩ := hx (by intro e; subst e; simp at hil)
      obtain ⟨A1, A2, A3, c1, c2, c3, hc, hok⟩ := hcs i hil
      have hsm : Wr.small xs[i] = true := by have := HALL.out; rw [List.all_eq_true] at this; exact this _ (List.getElem_mem hil)
      have hsn := Wr.lays_snoc xs i hil
      have hll := Wr.lay_len hsm hok.h32
      have hTl : (Wr.lays (xs.take i)).length ≤ 400 * i := by
        have : ∀ ys : List ActL, (∀ y ∈ ys, (Wr.lay y).length ≤ 400) → (Wr.lays ys).length ≤ 400 * ys.length := by
          intro ys
          induction ys with
          | nil => intro _; simp [Wr.lays]
          | cons y ys ih =>
            intro h
            have h1 := h y (by simp)
            have h2 := ih (fun z hz => h z (by simp [hz]))
            unfold Wr.lays at *
            simp only [List.map_cons, List.flatten_cons, List.length_append, List.length_cons]
            omega
        have h2 := this (xs.take i) (fun y hy => by
          obtain ⟨j, hj, rfl⟩ := List.getElem_of_mem hy
          rw [List.getElem_take]
          have hjl : j < xs.length := by rw [List.length_take] at hj; omega
          obtain ⟨_, _, _, _, _, _, _, hok'⟩ := hcs j hjl
          exact Wr.lay_len (by have := HALL.out; rw [List.all_eq_true] at this; exact this _ (List.getElem_mem hjl)) hok'.h32)
        rw [List.length_take] at h2
        omega
      have hld := loadAct (w := wr) (b := b) (o := o + i * 5) (x := xs[i]) (A1 := A1) (A2 := A2) (A3 := A3) (c1 := c1) (c2 := c2) (c3 := c3) (fun j v hv => hLr.cell (hc j v hv))
      have hlay := lay_any g r (Wr.lays (xs.take i)) xs[i] A1 A2 A3 c1 c2 c3 w wr hLr hg0 hr0 hok hsm (by omega) hwr
      generalize xs[i] = x at *
      generalize Wr.lays (xs.take i) = T at *
      generalize Wr.lay x = out at *
      generalize Wr.layNo x = no at *
      generalize hact : actA x A1 A2 A3 c1 c2 c3 = cells at *
      have HSN := Lib.hid hsn
      have hgl := hwr.lt
      clear hsn hcs hc hok hsm hact hil
      go_upto_region 9 with (first
        | (refine wpList_load rfl 67 (.tmp 27) rfl (.pointer (some ⟨b, o + i * 5, none⟩)) rfl hld ?_)
        | (go_at_call 25; refine hlay.mono ?_; clear hlay; rintro e w2 ⟨v7, r2, rfl, hown7, hw2, hwt⟩)
        | fail)
      have hL2 := later_of_wrote hLr hg0 hr0 hwt
      have hown2 := hown.keep (fun b hb e => hwt.1.block b ⟨hb, (hvb b e).1, (hvb b e).2⟩)
      have hr20 : ∀ k, r2 = some k → w.heap.size ≤ k := fun k e => by
        rcases hwt.2 k e with h | h
        · exact hr0 k h
        · exact Nat.le_trans hLr.size h
      have hvb2 := fun k (e : _ = some k) => (show k ≠ g ∧ some k ≠ r2 from ⟨(hvb k e).1, fun h => by
        rcases hwt.2 k h.symm with h' | h'
        · exact (hvb k e).2 h'.symm
        · have := (hown.at_ k e).2; omega⟩)
      have hgl2 := hw2.lt
      obtain ⟨A7, c7, rfl, hc7, _, hrd7⟩ := hown7.slice
      have hUl : (T ++ out).length ≤ 400 * i + 400 := by rw [List.length_append]; omega
      clear hown hvb hr0 hwt hown7 hwr hLr hgl hld
      go_upto_region 10 with (first
        | (at_builtin; refine wpList_append_bytes rfl (.tmp 33) (.tmp 34) 22 rfl w.heap.size 5 Try.underlying22 byteInfo _ T rfl hown2 A7 _ c7 out rfl rfl hrd7 (by omega) hL2.size ?_; intro v3 w3 hown3 hg3 hat3)
        | fail)
      have hL3 : Later w w3 := hL2.grown hg3 hL2.size (fun j e => (hown2.at_ j e).1)
      have hw3 := hw2.mono (Same.of_grown hg3) ⟨hgl2.1, fun e => (hvb2 g e.symm).1 rfl⟩ (fun k e h => ⟨h, fun e2 => (hvb2 k e2.symm).2 e.symm⟩)
      have hvb3 : ∀ k, v3.ownBlock = some k → k ≠ g ∧ some k ≠ r2 := fun k e => by
        rcases hat3 with h | h
        · exact hvb2 k (h ▸ e)
        · rw [h] at e
          have := Option.some.inj e
          refine ⟨by have := hgl2.1; omega, fun h2 => by have := hgl2.2 k h2.symm; omega⟩
      generalize T ++ out = U at *
      have hall := all_any g r2 U w3 (by omega) hw3
      have hgl3 := hw3.lt
      have hvl3 := fun k e => (hown3.at_ k e).2
      clear hown2 hg3 hat3 hw2 hvb2 hgl2 hrd7 hL2 hc7
      go_upto_region 11 with (first
        | (go_at_call 14; refine hall.mono ?_; clear hall; rintro e w4 ⟨v9, rfl, hown9, hL4⟩)
        | fail)
      have hx9 := hown9.xrow
      obtain ⟨A9, c9, rfl, hc9, _, hrd9⟩ := hown9.slice
      have hown34 := hown3.later hL4
      obtain ⟨A3', c3', rfl, hc3', _, hrd3⟩ := hown3.slice
      have hcv1 := strOf (c := c9) hrd9 rfl
      have hcv2 := strOf (c := c3') (hrd3.later hL4) rfl
      have hL4w := hL3.step hL4
      have hw4 := hw3.later hL4
      have hsz34 := hL4.size
      have HU := Lib.hid hUl
      generalize hULn : U.length = n9 at *
      have e0 : (no == no) = true := by simp
      clear hrd9 hown9 hrd3 hc9 hc3'
      go_upto_region 13 with (first
        | (go_at_call 13; refine (numE_any _ _).mono ?_; rintro e w' ⟨rfl, hww⟩; subst hww)
        | fail)
      clear hcv1 hcv2 e0
      go_wp2_with fail
      go_loopw [10] (fun t wr => ∃ j : Nat, j ≤ n9 ∧ t = .int .i64 j ∧ XRow 5 wr w3.heap.size (.slice A9 n9 c9) n9 ∧ Below w3.heap.size w4 wr) (fun t _ => n9 - (intOf t).toNat)
      case atStart => exact ⟨0, by omega, rfl, hx9, Below.refl _ _⟩
      case round =>
        obtain ⟨j, hj, rfl, hx, hb⟩ := hrel
        by_cases hlt9 : j < n9
        · rcases hx with hx | ⟨g4, cap4, cs, e4, hg4, hrow4, hsz4, hcs4⟩
          · omega
          · injection e4 with e4 _ e5
            subst e4
            obtain ⟨y, hy⟩ := hcs4 j hlt9
            have hc4 : wr.cell? ⟨g4, j, none⟩ = some (.int .u8 (y.toNat : Int)) := (hrow4.cell j).trans hy
            have hf4 := hrow4.frozen j
            have hy8 := y.toNat_lt
            have HCS := Lib.hid hcs4
            clear hy hcs4 hx9
            go_wp2_with fail
            go_roundw
            case rel =>
              refine ⟨j + 1, by omega, by go_num, .inr ⟨g4, cap4, _, by rw [e5], hg4, hrow4.set j _, by simpa using hsz4, ?_⟩, hb.setCell (p := ⟨g4, j, none⟩) (by show w3.heap.size ≤ g4; omega) _⟩
              intro k hk
              by_cases e : j = k
              · subst e
                refine ⟨UInt8.ofNat (y.toNat + 1), ?_⟩
                rw [Array.getElem?_setIfInBounds_self, if_pos (by omega), byteV, UInt8.toNat_ofNat']
                congr 2
              · rw [Array.getElem?_setIfInBounds_ne e]
                exact HCS.out k hk
            case measure => simp [intOf]; omega
        · obtain rfl : j = n9 := by omega
          have hL5 : Later w wr := Below.trans hL4w (hb.mono hL3.size)
          have hw5 : IsWr wr g r2 U := hw4.mono (Same.of_below hb) hgl3.1 (fun k e _ => hgl3.2 k e)
          have hown5 : Own 5 wr w.heap.size (.slice A3' j c3') U := hown34.keep (fun b hb' e => hb.block b (hvl3 b e))
          clear hx hb hx9 hL4w hw4 hown34 hvl3
          go_wp2_with fail
          go_roundw
          case rel => exact ⟨i + 1, r2, by omega, by go_num, hL5, by rw [HSN.out]; exact hw5, hr20, by rw [HSN.out]; exact hown5, hvb3⟩
          case measure => simp [intOf]; omega
    · obtain rfl : i = n := by omega
      have hd : decide ((i : Int) < (i : Int)) = false := decide_eq_false (by omega)
      have hd' : decide (i < i) = false := decide_eq_false (by omega)
      rw [List.take_of_length_le (by rw [HN.out]; exact Nat.le_refl _)] at hwr hown
      obtain ⟨A4, c4, rfl, hc4, _, hrd4⟩ := hown.slice
      have hTl : (Wr.lays xs).length ≤ 100000 := by
        have : ∀ ys : List ActL, (∀ y ∈ ys, (Wr.lay y).length ≤ 400) → (Wr.lays ys).length ≤ 400 * ys.length := by
          intro ys
          induction ys with
          | nil => intro _; simp [Wr.lays]
          | cons y ys ih =>
            intro h
            have h1 := h y (by simp)
            have h2 := ih (fun z hz => h z (by simp [hz]))
            unfold Wr.lays at *
            simp only [List.map_cons, List.flatten_cons, List.length_append, List.length_cons]
            omega
        have h2 := this xs (fun y hy => by
          obtain ⟨j, hj, rfl⟩ := List.getElem_of_mem hy
          obtain ⟨_, _, _, hcs⟩ := hx (by intro e; subst e; simp at hj)
          obtain ⟨_, _, _, _, _, _, _, hok'⟩ := hcs j hj
          exact Wr.lay_len (by have := HALL.out; rw [List.all_eq_true] at this; exact this _ (List.getElem_mem hj)) hok'.h32)
        have := HN.out
        omega
      clear hx hvb
      go_upto_region 18 with fail
      rcases Nat.mod_two_eq_zero_or_one i with hp | hp
      · have e2 : (((i : Int).tmod 2) == 1) = false := by rw [Int.tmod_eq_emod_of_nonneg (by omega)]; simp; omega
        have hno := noWr_nil wr
        have hwz := hwr
        go_upto_region 20 with fail
        have hall := fun X (hL : Later wr X) => all_any g r (Wr.lays xs) X (by omega) (hwz.later hL)
        have hcv := fun X (hL : Later wr X) => strOf (c := c4) (hrd4.later hL) rfl
        have HALLW := Lib.hid hall
        have HCV := Lib.hid hcv
        have HNO := Lib.hid hno
        clear hall hcv hno hwz hrd4 hwr hown
        refine (wpIn_wide (n := 0)).1 ?_
        refine wpIn_region_vals wide_wide [Pr.eq (.pointer (some ⟨g, 0, none⟩)), Pr.rd (Wr.lays xs).length (Wr.lays xs), Pr.eq (.string ⟨(Wr.lays xs).toArray⟩), Pr.eq (.slice A4 ((Wr.lays xs).length) c4), Pr.eq (.string ⟨(Wr.lays xs).toArray⟩), Pr.eq (.bool true), Pr.eq (.bool true), Pr.eq (.pointer none), Pr.any, Pr.eq (.int .i64 1), Pr.eq (.int .i64 1), Pr.eq (.bool true), Pr.eq (.bool true), Pr.eq (.bool true), Pr.eq (.pointer none), Pr.any, Pr.eq (.int .i64 1), Pr.eq (.int .i64 1), Pr.eq (.bool true), Pr.eq (.bool true), Pr.eq (.bool true), Pr.eq (.pointer none), Pr.eq (.agg (hC [])), Pr.any, Pr.eq (.int .i64 1), Pr.eq (.int .i64 1), Pr.eq (.bool true), Pr.eq (.bool true), Pr.eq (.bool true), Pr.eq (.pointer none), Pr.eq (.int .i64 1), Pr.eq (.int .i64 1), Pr.eq (.bool true), Pr.eq (.bool true), Pr.eq (.bool true), Pr.eq (.pointer none), Pr.eq (.slice none 0 0), Pr.eq (.int .i64 (0 : Int)), Pr.eq (.bool true), Pr.eq (.bool true), Pr.eq (.bool true), Pr.eq (.bool true), Pr.eq (.bool true), Pr.eq (.bool true)] (by kernel_rfl) (by kernel_rfl) (by kernel_rfl) (by kernel_rfl) (by kernel_rfl) ⟨?_, ?_, ?_, ?_, ?_, ?_, ?_, ?_, ?_, ?_, ?_, ?_, ?_, ?_, ?_, ?_, ?_, ?_, ?_, ?_, ?_, ?_, ?_, ?_, ?_, ?_, ?_, ?_, ?_, ?_, ?_, ?_, ?_, ?_, ?_, ?_, ?_, ?_, ?_, ?_, ?_, ?_, ?_, ?_, trivial⟩ ?_
        · exact fun ac W hL he => stepOk_want rfl (op_move rfl (he.keep (.tmp 3) (by kernel_rfl)))
        · intro ac W hL he; refine stepOk_want rfl ?_; have e0 : ac.eval (.tmp 67) = .pointer (some ⟨g, 0, none⟩) := he.get 0 67 (by kernel_rfl) rfl; exact op_callF (vs := #[.pointer (some ⟨g, 0, none⟩)]) rfl (by simp only [List.map_toArray, List.map_cons, List.map_nil, e0]) (enters_of Try.func14 (by kernel_rfl) rfl) ((HALLW.out W hL).mono fun e W' ⟨v, he', hown, hL'⟩ => ⟨_, he', hL', own_rd hown⟩)
        · intro ac W hL he; refine stepOk_want rfl ?_; obtain ⟨A5, c5, e0, hc5, hrd5⟩ := he.get 1 68 (by kernel_rfl) rfl; exact op_convert rfl e0 (strOf hrd5 rfl) (Later.refl _) rfl
        · exact fun ac W hL he => stepOk_want rfl (op_move rfl (he.keep (.tmp 4) (by kernel_rfl)))
        · exact fun ac W hL he => stepOk_want rfl (op_convert rfl (he.get 3 70 (by kernel_rfl) rfl) (HCV.out W hL) (Later.refl _) rfl)
        · exact fun ac W hL he => stepOk_want rfl (op_binOp rfl (he.get 2 69 (by kernel_rfl) rfl) (he.get 4 71 (by kernel_rfl) rfl) eqgS (eqlS_self _ _) rfl)
        · exact fun ac W hL he => stepOk_want rfl (op_move rfl (he.get 5 72 (by kernel_rfl) rfl))
        · exact fun ac W hL he => stepOk_yes (j := 6) (t := 73) (b := true) rfl rfl (he.get 6 73 (by kernel_rfl) rfl) (op_move rfl (he.keep (.tmp 11) (by kernel_rfl)))
        · intro ac W hL he; refine stepOk_yes (j := 6) (t := 73) (b := true) rfl rfl (he.get 6 73 (by kernel_rfl) rfl) ?_; exact op_buildSlice (W' := _) (vs := #[(0, .int .i64 1)]) rfl (by simp only [List.map_toArray, List.map_cons, List.map_nil, Act.eval]) (buildI1 1 W) ((Later.refl W).alloc _) trivial
        · intro ac W hL he; refine stepOk_yes (j := 6) (t := 73) (b := true) rfl rfl (he.get 6 73 (by kernel_rfl) rfl) ?_; have e0 : ac.eval (.tmp 74) = .pointer none := he.get 7 74 (by kernel_rfl) rfl; exact op_callF (vs := #[.pointer none, ac.eval (.tmp 75)]) rfl (by simp only [List.map_toArray, List.map_cons, List.map_nil, e0]) (enters_of Try.func11 (by kernel_rfl) rfl) ((wNumber_none none _ W (HNO.out.later hL)).mono fun e W' ⟨hw', he'⟩ => ⟨_, he', hw' ▸ Later.refl _, rfl⟩)
        · intro ac W hL he; refine stepOk_yes (j := 6) (t := 73) (b := true) rfl rfl (he.get 6 73 (by kernel_rfl) rfl) ?_; have e0 : ac.eval (.tmp 76) = .int .i64 1 := (he.get 9 76 (by kernel_rfl) rfl); exact op_callF (vs := #[.int .i64 1]) rfl (by simp only [List.map_toArray, List.map_cons, List.map_nil, e0]) (enters_of Try.func13 (by kernel_rfl) rfl) ((numE_any 1 W).mono fun e W' ⟨he', hw'⟩ => ⟨_, he', hw' ▸ Later.refl _, rfl⟩)
        · exact fun ac W hL he => stepOk_yes (j := 6) (t := 73) (b := true) rfl rfl (he.get 6 73 (by kernel_rfl) rfl) (op_binOp rfl (he.get 10 77 (by kernel_rfl) rfl) rfl eqgI (eqlI_self _ _ _) rfl)
        · exact fun ac W hL he => stepOk_want rfl (op_pick (b := true) rfl (he.get 6 73 (by kernel_rfl) rfl) (he.get 11 78 (by kernel_rfl) rfl))
        · exact fun ac W hL he => stepOk_want rfl (op_move rfl (he.get 12 79 (by kernel_rfl) rfl))
        · exact fun ac W hL he => stepOk_yes (j := 13) (t := 80) (b := true) rfl rfl (he.get 13 80 (by kernel_rfl) rfl) (op_move rfl (he.keep (.tmp 11) (by kernel_rfl)))
        · intro ac W hL he; refine stepOk_yes (j := 13) (t := 80) (b := true) rfl rfl (he.get 13 80 (by kernel_rfl) rfl) ?_; exact op_buildSlice (W' := _) (vs := #[(0, .bool true)]) rfl (by simp only [List.map_toArray, List.map_cons, List.map_nil, Act.eval]) (buildB1 W) ((Later.refl W).alloc _) trivial
        · intro ac W hL he; refine stepOk_yes (j := 13) (t := 80) (b := true) rfl rfl (he.get 13 80 (by kernel_rfl) rfl) ?_; have e0 : ac.eval (.tmp 81) = .pointer none := he.get 14 81 (by kernel_rfl) rfl; exact op_callF (vs := #[.pointer none, ac.eval (.tmp 82)]) rfl (by simp only [List.map_toArray, List.map_cons, List.map_nil, e0]) (enters_of Try.func26 (by kernel_rfl) rfl) ((wTruth_none none _ W (HNO.out.later hL)).mono fun e W' ⟨hw', he'⟩ => ⟨_, he', hw' ▸ Later.refl _, rfl⟩)
        · intro ac W hL he; refine stepOk_yes (j := 13) (t := 80) (b := true) rfl rfl (he.get 13 80 (by kernel_rfl) rfl) ?_; have e0 : ac.eval (.tmp 83) = .int .i64 1 := (he.get 16 83 (by kernel_rfl) rfl); exact op_callF (vs := #[.int .i64 1]) rfl (by simp only [List.map_toArray, List.map_cons, List.map_nil, e0]) (enters_of Try.func13 (by kernel_rfl) rfl) ((numE_any 1 W).mono fun e W' ⟨he', hw'⟩ => ⟨_, he', hw' ▸ Later.refl _, rfl⟩)
        · exact fun ac W hL he => stepOk_yes (j := 13) (t := 80) (b := true) rfl rfl (he.get 13 80 (by kernel_rfl) rfl) (op_binOp rfl (he.get 17 84 (by kernel_rfl) rfl) rfl eqgI (eqlI_self _ _ _) rfl)
        · exact fun ac W hL he => stepOk_want rfl (op_pick (b := true) rfl (he.get 13 80 (by kernel_rfl) rfl) (he.get 18 85 (by kernel_rfl) rfl))
        · exact fun ac W hL he => stepOk_want rfl (op_move rfl (he.get 19 86 (by kernel_rfl) rfl))
        · exact fun ac W hL he => stepOk_yes (j := 20) (t := 87) (b := true) rfl rfl (he.get 20 87 (by kernel_rfl) rfl) (op_move rfl (he.keep (.tmp 11) (by kernel_rfl)))
        · exact fun ac W hL he => stepOk_yes (j := 20) (t := 87) (b := true) rfl rfl (he.get 20 87 (by kernel_rfl) rfl) (op_buildR rfl (by simp only [List.map_toArray, List.map_nil]) (buildH0 W) rfl)
        · intro ac W hL he; refine stepOk_yes (j := 20) (t := 87) (b := true) rfl rfl (he.get 20 87 (by kernel_rfl) rfl) ?_; have e0 : ac.eval (.tmp 89) = .agg (hC []) := he.get 22 89 (by kernel_rfl) rfl; exact op_buildSlice (W' := _) (vs := #[(0, .agg (hC []))]) rfl (by simp only [List.map_toArray, List.map_cons, List.map_nil, e0]) (buildH1 W) ((Later.refl W).alloc _) trivial
        · intro ac W hL he; refine stepOk_yes (j := 20) (t := 87) (b := true) rfl rfl (he.get 20 87 (by kernel_rfl) rfl) ?_; have e0 : ac.eval (.tmp 88) = .pointer none := he.get 21 88 (by kernel_rfl) rfl; exact op_callF (vs := #[.pointer none, ac.eval (.tmp 90)]) rfl (by simp only [List.map_toArray, List.map_cons, List.map_nil, e0]) (enters_of Try.func27 (by kernel_rfl) rfl) ((wHash_none none _ W (HNO.out.later hL)).mono fun e W' ⟨hw', he'⟩ => ⟨_, he', hw' ▸ Later.refl _, rfl⟩)
        · intro ac W hL he; refine stepOk_yes (j := 20) (t := 87) (b := true) rfl rfl (he.get 20 87 (by kernel_rfl) rfl) ?_; have e0 : ac.eval (.tmp 91) = .int .i64 1 := (he.get 24 91 (by kernel_rfl) rfl); exact op_callF (vs := #[.int .i64 1]) rfl (by simp only [List.map_toArray, List.map_cons, List.map_nil, e0]) (enters_of Try.func13 (by kernel_rfl) rfl) ((numE_any 1 W).mono fun e W' ⟨he', hw'⟩ => ⟨_, he', hw' ▸ Later.refl _, rfl⟩)
        · exact fun ac W hL he => stepOk_yes (j := 20) (t := 87) (b := true) rfl rfl (he.get 20 87 (by kernel_rfl) rfl) (op_binOp rfl (he.get 25 92 (by kernel_rfl) rfl) rfl eqgI (eqlI_self _ _ _) rfl)
        · exact fun ac W hL he => stepOk_want rfl (op_pick (b := true) rfl (he.get 20 87 (by kernel_rfl) rfl) (he.get 26 93 (by kernel_rfl) rfl))
        · exact fun ac W hL he => stepOk_want rfl (op_move rfl (he.get 27 94 (by kernel_rfl) rfl))
        · exact fun ac W hL he => stepOk_yes (j := 28) (t := 95) (b := true) rfl rfl (he.get 28 95 (by kernel_rfl) rfl) (op_move rfl (he.keep (.tmp 11) (by kernel_rfl)))
        · intro ac W hL he; refine stepOk_yes (j := 28) (t := 95) (b := true) rfl rfl (he.get 28 95 (by kernel_rfl) rfl) ?_; have e0 : ac.eval (.tmp 96) = .pointer none := he.get 29 96 (by kernel_rfl) rfl; exact op_callF (vs := #[.pointer none, .string ⟨#[]⟩]) rfl (by simp only [List.map_toArray, List.map_cons, List.map_nil, e0, show ac.eval (.const (.string ⟨#[]⟩)) = .string ⟨#[]⟩ from rfl]) (enters_of Try.func28 (by kernel_rfl) rfl) ((wText_none none _ W (HNO.out.later hL)).mono fun e W' ⟨hw', he'⟩ => ⟨_, he', hw' ▸ Later.refl _, rfl⟩)
        · intro ac W hL he; refine stepOk_yes (j := 28) (t := 95) (b := true) rfl rfl (he.get 28 95 (by kernel_rfl) rfl) ?_; have e0 : ac.eval (.tmp 97) = .int .i64 1 := (he.get 30 97 (by kernel_rfl) rfl); exact op_callF (vs := #[.int .i64 1]) rfl (by simp only [List.map_toArray, List.map_cons, List.map_nil, e0]) (enters_of Try.func13 (by kernel_rfl) rfl) ((numE_any 1 W).mono fun e W' ⟨he', hw'⟩ => ⟨_, he', hw' ▸ Later.refl _, rfl⟩)
        · exact fun ac W hL he => stepOk_yes (j := 28) (t := 95) (b := true) rfl rfl (he.get 28 95 (by kernel_rfl) rfl) (op_binOp rfl (he.get 31 98 (by kernel_rfl) rfl) rfl eqgI (eqlI_self _ _ _) rfl)
        · exact fun ac W hL he => stepOk_want rfl (op_pick (b := true) rfl (he.get 28 95 (by kernel_rfl) rfl) (he.get 32 99 (by kernel_rfl) rfl))
        · exact fun ac W hL he => stepOk_want rfl (op_move rfl (he.get 33 100 (by kernel_rfl) rfl))
        · exact fun ac W hL he => stepOk_yes (j := 34) (t := 101) (b := true) rfl rfl (he.get 34 101 (by kernel_rfl) rfl) (op_move rfl (he.keep (.tmp 11) (by kernel_rfl)))
        · intro ac W hL he; refine stepOk_yes (j := 34) (t := 101) (b := true) rfl rfl (he.get 34 101 (by kernel_rfl) rfl) ?_; have e0 : ac.eval (.tmp 102) = .pointer none := (he.get 35 102 (by kernel_rfl) rfl); exact op_callF (vs := #[.pointer none]) rfl (by simp only [List.map_toArray, List.map_cons, List.map_nil, e0]) (enters_of Try.func14 (by kernel_rfl) rfl) ((all_none none W (HNO.out.later hL)).mono fun e W' ⟨hw', he'⟩ => ⟨_, he', hw' ▸ Later.refl _, rfl⟩)
        · exact fun ac W hL he => stepOk_yes (j := 34) (t := 101) (b := true) rfl rfl (he.get 34 101 (by kernel_rfl) rfl) (op_len Try.underlying22 rfl (he.get 36 103 (by kernel_rfl) rfl) rfl)
        · exact fun ac W hL he => stepOk_yes (j := 34) (t := 101) (b := true) rfl rfl (he.get 34 101 (by kernel_rfl) rfl) (op_binOp rfl (he.get 37 104 (by kernel_rfl) rfl) rfl eqgI (eqlI_self _ _ _) rfl)
        · exact fun ac W hL he => stepOk_want rfl (op_pick (b := true) rfl (he.get 34 101 (by kernel_rfl) rfl) (he.get 38 105 (by kernel_rfl) rfl))
        · exact fun ac W hL he => stepOk_want rfl (op_move rfl (he.get 39 106 (by kernel_rfl) rfl))
        · intro ac W hL he; refine stepOk_yes (j := 40) (t := 107) (b := true) rfl rfl (he.get 40 107 (by kernel_rfl) rfl) ?_; exact op_callF (vs := #[]) rfl (by simp) (enters_of Try.func9 (by kernel_rfl) rfl) ((wworks_any W).mono fun e W' ⟨he', hL'⟩ => ⟨_, he', hL', rfl⟩)
        · exact fun ac W hL he => stepOk_want rfl (op_pick (b := true) rfl (he.get 40 107 (by kernel_rfl) rfl) (he.get 41 108 (by kernel_rfl) rfl))
        · exact fun ac W hL he => stepOk_want rfl (op_assign rfl (he.get 42 109 (by kernel_rfl) rfl))
        intro zs W9 hL9 hzs
        have e43 : zs 43 = .bool true := hzs 43 (by decide)
        have hfin := hLr.step hL9
        clear hzs hL9 hLr
        simp only [putL, Nat.reduceAdd, Act.put, List.setIfInBounds_toArray, List.set_cons_succ, List.set_cons_zero]
        rw [e43]
        go_wp2_with fail
        exact HΦ.out _ _ ⟨rfl, hfin⟩
      · have e2 : (((i : Int).tmod 2) == 1) = true := by rw [Int.tmod_eq_emod_of_nonneg (by omega)]; simp; omega
        go_upto_region 20 with fail
        have hno := noWr_void (Row.new wr 69 #[.slice none 0 0, .bool false])
        have hwz := hwr.later ((Later.refl wr).alloc (.cells #[.slice none 0 0, .bool false] 69))
        replace hrd4 := hrd4.alloc (.cells #[.slice none 0 0, .bool false] 69)
        replace hLr := hLr.alloc (.cells #[.slice none 0 0, .bool false] 69)
        obtain ⟨q9, hq9⟩ : ∃ q, q = wr.heap.size := ⟨_, rfl⟩
        rw [← hq9] at hno ⊢
        clear hq9
        generalize wr.alloc (.cells #[.slice none 0 0, .bool false] 69) = wz at *
        have hall := fun X (hL : Later wz X) => all_any g r (Wr.lays xs) X (by omega) (hwz.later hL)
        have hcv := fun X (hL : Later wz X) => strOf (c := c4) (hrd4.later hL) rfl
        have HALLW := Lib.hid hall
        have HCV := Lib.hid hcv
        have HNO := Lib.hid hno
        clear hall hcv hno hwz hrd4 hwr hown
        refine (wpIn_wide (n := 0)).1 ?_
        refine wpIn_region_vals wide_wide [Pr.eq (.pointer (some ⟨g, 0, none⟩)), Pr.rd (Wr.lays xs).length (Wr.lays xs), Pr.eq (.string ⟨(Wr.lays xs).toArray⟩), Pr.eq (.slice A4 ((Wr.lays xs).length) c4), Pr.eq (.string ⟨(Wr.lays xs).toArray⟩), Pr.eq (.bool true), Pr.eq (.bool true), Pr.eq (.pointer (some ⟨q9, 0, none⟩)), Pr.any, Pr.eq (.int .i64 1), Pr.eq (.int .i64 1), Pr.eq (.bool true), Pr.eq (.bool true), Pr.eq (.bool true), Pr.eq (.pointer (some ⟨q9, 0, none⟩)), Pr.any, Pr.eq (.int .i64 1), Pr.eq (.int .i64 1), Pr.eq (.bool true), Pr.eq (.bool true), Pr.eq (.bool true), Pr.eq (.pointer (some ⟨q9, 0, none⟩)), Pr.eq (.agg (hC [])), Pr.any, Pr.eq (.int .i64 1), Pr.eq (.int .i64 1), Pr.eq (.bool true), Pr.eq (.bool true), Pr.eq (.bool true), Pr.eq (.pointer (some ⟨q9, 0, none⟩)), Pr.eq (.int .i64 1), Pr.eq (.int .i64 1), Pr.eq (.bool true), Pr.eq (.bool true), Pr.eq (.bool true), Pr.eq (.pointer (some ⟨q9, 0, none⟩)), Pr.eq (.slice none 0 0), Pr.eq (.int .i64 (0 : Int)), Pr.eq (.bool true), Pr.eq (.bool true), Pr.eq (.bool true), Pr.eq (.bool true), Pr.eq (.bool true), Pr.eq (.bool true)] (by kernel_rfl) (by kernel_rfl) (by kernel_rfl) (by kernel_rfl) (by kernel_rfl) ⟨?_, ?_, ?_, ?_, ?_, ?_, ?_, ?_, ?_, ?_, ?_, ?_, ?_, ?_, ?_, ?_, ?_, ?_, ?_, ?_, ?_, ?_, ?_, ?_, ?_, ?_, ?_, ?_, ?_, ?_, ?_, ?_, ?_, ?_, ?_, ?_, ?_, ?_, ?_, ?_, ?_, ?_, ?_, ?_, trivial⟩ ?_
        · exact fun ac W hL he => stepOk_want rfl (op_move rfl (he.keep (.tmp 3) (by kernel_rfl)))
        · intro ac W hL he; refine stepOk_want rfl ?_; have e0 : ac.eval (.tmp 67) = .pointer (some ⟨g, 0, none⟩) := he.get 0 67 (by kernel_rfl) rfl; exact op_callF (vs := #[.pointer (some ⟨g, 0, none⟩)]) rfl (by simp only [List.map_toArray, List.map_cons, List.map_nil, e0]) (enters_of Try.func14 (by kernel_rfl) rfl) ((HALLW.out W hL).mono fun e W' ⟨v, he', hown, hL'⟩ => ⟨_, he', hL', own_rd hown⟩)
        · intro ac W hL he; refine stepOk_want rfl ?_; obtain ⟨A5, c5, e0, hc5, hrd5⟩ := he.get 1 68 (by kernel_rfl) rfl; exact op_convert rfl e0 (strOf hrd5 rfl) (Later.refl _) rfl
        · exact fun ac W hL he => stepOk_want rfl (op_move rfl (he.keep (.tmp 4) (by kernel_rfl)))
        · exact fun ac W hL he => stepOk_want rfl (op_convert rfl (he.get 3 70 (by kernel_rfl) rfl) (HCV.out W hL) (Later.refl _) rfl)
        · exact fun ac W hL he => stepOk_want rfl (op_binOp rfl (he.get 2 69 (by kernel_rfl) rfl) (he.get 4 71 (by kernel_rfl) rfl) eqgS (eqlS_self _ _) rfl)
        · exact fun ac W hL he => stepOk_want rfl (op_move rfl (he.get 5 72 (by kernel_rfl) rfl))
        · exact fun ac W hL he => stepOk_yes (j := 6) (t := 73) (b := true) rfl rfl (he.get 6 73 (by kernel_rfl) rfl) (op_move rfl (he.keep (.tmp 11) (by kernel_rfl)))
        · intro ac W hL he; refine stepOk_yes (j := 6) (t := 73) (b := true) rfl rfl (he.get 6 73 (by kernel_rfl) rfl) ?_; exact op_buildSlice (W' := _) (vs := #[(0, .int .i64 1)]) rfl (by simp only [List.map_toArray, List.map_cons, List.map_nil, Act.eval]) (buildI1 1 W) ((Later.refl W).alloc _) trivial
        · intro ac W hL he; refine stepOk_yes (j := 6) (t := 73) (b := true) rfl rfl (he.get 6 73 (by kernel_rfl) rfl) ?_; have e0 : ac.eval (.tmp 74) = .pointer (some ⟨q9, 0, none⟩) := he.get 7 74 (by kernel_rfl) rfl; exact op_callF (vs := #[.pointer (some ⟨q9, 0, none⟩), ac.eval (.tmp 75)]) rfl (by simp only [List.map_toArray, List.map_cons, List.map_nil, e0]) (enters_of Try.func11 (by kernel_rfl) rfl) ((wNumber_none (some ⟨q9, 0, none⟩) _ W (HNO.out.later hL)).mono fun e W' ⟨hw', he'⟩ => ⟨_, he', hw' ▸ Later.refl _, rfl⟩)
        · intro ac W hL he; refine stepOk_yes (j := 6) (t := 73) (b := true) rfl rfl (he.get 6 73 (by kernel_rfl) rfl) ?_; have e0 : ac.eval (.tmp 76) = .int .i64 1 := (he.get 9 76 (by kernel_rfl) rfl); exact op_callF (vs := #[.int .i64 1]) rfl (by simp only [List.map_toArray, List.map_cons, List.map_nil, e0]) (enters_of Try.func13 (by kernel_rfl) rfl) ((numE_any 1 W).mono fun e W' ⟨he', hw'⟩ => ⟨_, he', hw' ▸ Later.refl _, rfl⟩)
        · exact fun ac W hL he => stepOk_yes (j := 6) (t := 73) (b := true) rfl rfl (he.get 6 73 (by kernel_rfl) rfl) (op_binOp rfl (he.get 10 77 (by kernel_rfl) rfl) rfl eqgI (eqlI_self _ _ _) rfl)
        · exact fun ac W hL he => stepOk_want rfl (op_pick (b := true) rfl (he.get 6 73 (by kernel_rfl) rfl) (he.get 11 78 (by kernel_rfl) rfl))
        · exact fun ac W hL he => stepOk_want rfl (op_move rfl (he.get 12 79 (by kernel_rfl) rfl))
        · exact fun ac W hL he => stepOk_yes (j := 13) (t := 80) (b := true) rfl rfl (he.get 13 80 (by kernel_rfl) rfl) (op_move rfl (he.keep (.tmp 11) (by kernel_rfl)))
        · intro ac W hL he; refine stepOk_yes (j := 13) (t := 80) (b := true) rfl rfl (he.get 13 80 (by kernel_rfl) rfl) ?_; exact op_buildSlice (W' := _) (vs := #[(0, .bool true)]) rfl (by simp only [List.map_toArray, List.map_cons, List.map_nil, Act.eval]) (buildB1 W) ((Later.refl W).alloc _) trivial
        · intro ac W hL he; refine stepOk_yes (j := 13) (t := 80) (b := true) rfl rfl (he.get 13 80 (by kernel_rfl) rfl) ?_; have e0 : ac.eval (.tmp 81) = .pointer (some ⟨q9, 0, none⟩) := he.get 14 81 (by kernel_rfl) rfl; exact op_callF (vs := #[.pointer (some ⟨q9, 0, none⟩), ac.eval (.tmp 82)]) rfl (by simp only [List.map_toArray, List.map_cons, List.map_nil, e0]) (enters_of Try.func26 (by kernel_rfl) rfl) ((wTruth_none (some ⟨q9, 0, none⟩) _ W (HNO.out.later hL)).mono fun e W' ⟨hw', he'⟩ => ⟨_, he', hw' ▸ Later.refl _, rfl⟩)
        · intro ac W hL he; refine stepOk_yes (j := 13) (t := 80) (b := true) rfl rfl (he.get 13 80 (by kernel_rfl) rfl) ?_; have e0 : ac.eval (.tmp 83) = .int .i64 1 := (he.get 16 83 (by kernel_rfl) rfl); exact op_callF (vs := #[.int .i64 1]) rfl (by simp only [List.map_toArray, List.map_cons, List.map_nil, e0]) (enters_of Try.func13 (by kernel_rfl) rfl) ((numE_any 1 W).mono fun e W' ⟨he', hw'⟩ => ⟨_, he', hw' ▸ Later.refl _, rfl⟩)
        · exact fun ac W hL he => stepOk_yes (j := 13) (t := 80) (b := true) rfl rfl (he.get 13 80 (by kernel_rfl) rfl) (op_binOp rfl (he.get 17 84 (by kernel_rfl) rfl) rfl eqgI (eqlI_self _ _ _) rfl)
        · exact fun ac W hL he => stepOk_want rfl (op_pick (b := true) rfl (he.get 13 80 (by kernel_rfl) rfl) (he.get 18 85 (by kernel_rfl) rfl))
        · exact fun ac W hL he => stepOk_want rfl (op_move rfl (he.get 19 86 (by kernel_rfl) rfl))
        · exact fun ac W hL he => stepOk_yes (j := 20) (t := 87) (b := true) rfl rfl (he.get 20 87 (by kernel_rfl) rfl) (op_move rfl (he.keep (.tmp 11) (by kernel_rfl)))
        · exact fun ac W hL he => stepOk_yes (j := 20) (t := 87) (b := true) rfl rfl (he.get 20 87 (by kernel_rfl) rfl) (op_buildR rfl (by simp only [List.map_toArray, List.map_nil]) (buildH0 W) rfl)
        · intro ac W hL he; refine stepOk_yes (j := 20) (t := 87) (b := true) rfl rfl (he.get 20 87 (by kernel_rfl) rfl) ?_; have e0 : ac.eval (.tmp 89) = .agg (hC []) := he.get 22 89 (by kernel_rfl) rfl; exact op_buildSlice (W' := _) (vs := #[(0, .agg (hC []))]) rfl (by simp only [List.map_toArray, List.map_cons, List.map_nil, e0]) (buildH1 W) ((Later.refl W).alloc _) trivial
        · intro ac W hL he; refine stepOk_yes (j := 20) (t := 87) (b := true) rfl rfl (he.get 20 87 (by kernel_rfl) rfl) ?_; have e0 : ac.eval (.tmp 88) = .pointer (some ⟨q9, 0, none⟩) := he.get 21 88 (by kernel_rfl) rfl; exact op_callF (vs := #[.pointer (some ⟨q9, 0, none⟩), ac.eval (.tmp 90)]) rfl (by simp only [List.map_toArray, List.map_cons, List.map_nil, e0]) (enters_of Try.func27 (by kernel_rfl) rfl) ((wHash_none (some ⟨q9, 0, none⟩) _ W (HNO.out.later hL)).mono fun e W' ⟨hw', he'⟩ => ⟨_, he', hw' ▸ Later.refl _, rfl⟩)
        · intro ac W hL he; refine stepOk_yes (j := 20) (t := 87) (b := true) rfl rfl (he.get 20 87 (by kernel_rfl) rfl) ?_; have e0 : ac.eval (.tmp 91) = .int .i64 1 := (he.get 24 91 (by kernel_rfl) rfl); exact op_callF (vs := #[.int .i64 1]) rfl (by simp only [List.map_toArray, List.map_cons, List.map_nil, e0]) (enters_of Try.func13 (by kernel_rfl) rfl) ((numE_any 1 W).mono fun e W' ⟨he', hw'⟩ => ⟨_, he', hw' ▸ Later.refl _, rfl⟩)
        · exact fun ac W hL he => stepOk_yes (j := 20) (t := 87) (b := true) rfl rfl (he.get 20 87 (by kernel_rfl) rfl) (op_binOp rfl (he.get 25 92 (by kernel_rfl) rfl) rfl eqgI (eqlI_self _ _ _) rfl)
        · exact fun ac W hL he => stepOk_want rfl (op_pick (b := true) rfl (he.get 20 87 (by kernel_rfl) rfl) (he.get 26 93 (by kernel_rfl) rfl))
        · exact fun ac W hL he => stepOk_want rfl (op_move rfl (he.get 27 94 (by kernel_rfl) rfl))
        · exact fun ac W hL he => stepOk_yes (j := 28) (t := 95) (b := true) rfl rfl (he.get 28 95 (by kernel_rfl) rfl) (op_move rfl (he.keep (.tmp 11) (by kernel_rfl)))
        · intro ac W hL he; refine stepOk_yes (j := 28) (t := 95) (b := true) rfl rfl (he.get 28 95 (by kernel_rfl) rfl) ?_; have e0 : ac.eval (.tmp 96) = .pointer (some ⟨q9, 0, none⟩) := he.get 29 96 (by kernel_rfl) rfl; exact op_callF (vs := #[.pointer (some ⟨q9, 0, none⟩), .string ⟨#[]⟩]) rfl (by simp only [List.map_toArray, List.map_cons, List.map_nil, e0, show ac.eval (.const (.string ⟨#[]⟩)) = .string ⟨#[]⟩ from rfl]) (enters_of Try.func28 (by kernel_rfl) rfl) ((wText_none (some ⟨q9, 0, none⟩) _ W (HNO.out.later hL)).mono fun e W' ⟨hw', he'⟩ => ⟨_, he', hw' ▸ Later.refl _, rfl⟩)
        · intro ac W hL he; refine stepOk_yes (j := 28) (t := 95) (b := true) rfl rfl (he.get 28 95 (by kernel_rfl) rfl) ?_; have e0 : ac.eval (.tmp 97) = .int .i64 1 := (he.get 30 97 (by kernel_rfl) rfl); exact op_callF (vs := #[.int .i64 1]) rfl (by simp only [List.map_toArray, List.map_cons, List.map_nil, e0]) (enters_of Try.func13 (by kernel_rfl) rfl) ((numE_any 1 W).mono fun e W' ⟨he', hw'⟩ => ⟨_, he', hw' ▸ Later.refl _, rfl⟩)
        · exact fun ac W hL he => stepOk_yes (j := 28) (t := 95) (b := true) rfl rfl (he.get 28 95 (by kernel_rfl) rfl) (op_binOp rfl (he.get 31 98 (by kernel_rfl) rfl) rfl eqgI (eqlI_self _ _ _) rfl)
        · exact fun ac W hL he => stepOk_want rfl (op_pick (b := true) rfl (he.get 28 95 (by kernel_rfl) rfl) (he.get 32 99 (by kernel_rfl) rfl))
        · exact fun ac W hL he => stepOk_want rfl (op_move rfl (he.get 33 100 (by kernel_rfl) rfl))
        · exact fun ac W hL he => stepOk_yes (j := 34) (t := 101) (b := true) rfl rfl (he.get 34 101 (by kernel_rfl) rfl) (op_move rfl (he.keep (.tmp 11) (by kernel_rfl)))
        · intro ac W hL he; refine stepOk_yes (j := 34) (t := 101) (b := true) rfl rfl (he.get 34 101 (by kernel_rfl) rfl) ?_; have e0 : ac.eval (.tmp 102) = .pointer (some ⟨q9, 0, none⟩) := (he.get 35 102 (by kernel_rfl) rfl); exact op_callF (vs := #[.pointer (some ⟨q9, 0, none⟩)]) rfl (by simp only [List.map_toArray, List.map_cons, List.map_nil, e0]) (enters_of Try.func14 (by kernel_rfl) rfl) ((all_none (some ⟨q9, 0, none⟩) W (HNO.out.later hL)).mono fun e W' ⟨hw', he'⟩ => ⟨_, he', hw' ▸ Later.refl _, rfl⟩)
        · exact fun ac W hL he => stepOk_yes (j := 34) (t := 101) (b := true) rfl rfl (he.get 34 101 (by kernel_rfl) rfl) (op_len Try.underlying22 rfl (he.get 36 103 (by kernel_rfl) rfl) rfl)
        · exact fun ac W hL he => stepOk_yes (j := 34) (t := 101) (b := true) rfl rfl (he.get 34 101 (by kernel_rfl) rfl) (op_binOp rfl (he.get 37 104 (by kernel_rfl) rfl) rfl eqgI (eqlI_self _ _ _) rfl)
        · exact fun ac W hL he => stepOk_want rfl (op_pick (b := true) rfl (he.get 34 101 (by kernel_rfl) rfl) (he.get 38 105 (by kernel_rfl) rfl))
        · exact fun ac W hL he => stepOk_want rfl (op_move rfl (he.get 39 106 (by kernel_rfl) rfl))
        · intro ac W hL he; refine stepOk_yes (j := 40) (t := 107) (b := true) rfl rfl (he.get 40 107 (by kernel_rfl) rfl) ?_; exact op_callF (vs := #[]) rfl (by simp) (enters_of Try.func9 (by kernel_rfl) rfl) ((wworks_any W).mono fun e W' ⟨he', hL'⟩ => ⟨_, he', hL', rfl⟩)
        · exact fun ac W hL he => stepOk_want rfl (op_pick (b := true) rfl (he.get 40 107 (by kernel_rfl) rfl) (he.get 41 108 (by kernel_rfl) rfl))
        · exact fun ac W hL he => stepOk_want rfl (op_assign rfl (he.get 42 109 (by kernel_rfl) rfl))
        intro zs W9 hL9 hzs
        have e43 : zs 43 = .bool true := hzs 43 (by decide)
        have hfin := hLr.step hL9
        clear hzs hL9 hLr
        simp only [putL, Nat.reduceAdd, Act.put, List.setIfInBounds_toArray, List.set_cons_succ, List.set_cons_zero]
        rw [e43]
        go_wp2_with fail
        exact HΦ.out _ _ ⟨rfl, hfin⟩
set_option maxRecDepth 100000 in
set_option maxHeartbeats 1000000 in
theorem wireLays_out (A : Option Addr) (n c : Nat) (xs : List ActL) (w : World) (hn : xs.length = n) (hnm : n ≤ 9223372036854775807) (hno : (xs.all Wr.small && decide (n ≤ 30)) = false) (hx : Acts w A xs) :
    Calls Try.prog 5 #[.slice A n c] w fun e w' => e = .returned (.bool true) ∧ Below w.heap.size w w' := by
  have hfew := few_any A n c xs 30 w hn hnm (by omega) hx
  rw [hno] at hfew
  clear hx hn hno
  go_enter Try.func5, Try.ntmps5
  go_wp2_with (first
    | (go_at_call 24; refine hfew.mono ?_; clear hfew; rintro e w' ⟨rfl, hww⟩; replace hww := hww.symm; subst hww)
    | (go_at_call 9; refine (wworks_any _).mono ?_; rintro e w7 ⟨rfl, hL7⟩)
    | fail)
  go_ret
  exact ⟨rfl, hL7⟩
theorem wireLays_walk (A : Option Addr) (n c : Nat) (xs : List ActL) (w : World) (hi : InActs w A n c xs) :
    Calls Try.prog 5 #[.slice A n c] w fun e w' => e = .returned (.bool true) ∧ Below w.heap.size w w' := by
  have h1 := hi.cap
  have h2 := hi.most
  unfold maxLen at h2
  cases h : (xs.all Wr.small && decide (n ≤ 30)) with
  | true =>
    rw [Bool.and_eq_true] at h
    exact wireLays_main A n c xs w hi.len (of_decide_eq_true h.2) h.1 hi.rd
  | false => exact wireLays_out A n c xs w hi.len (by omega) h hi.rd
end Go.Proofs.Ytmipaacobioakaa
