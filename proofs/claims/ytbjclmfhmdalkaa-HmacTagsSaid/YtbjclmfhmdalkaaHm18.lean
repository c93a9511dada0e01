/- HmacTags: the walk. -/
import Derived.Test.YtbjclmfhmdalkaaOpenC
set_option linter.unusedVariables false
set_option linter.unusedSimpArgs false
namespace Go.Proofs.Ytbjclmfhmdalkaa
open Go.RowKit
theorem eqg_88t {x y : Operand} {a b : Int} {W : World} : (eqGuard .eql 5 x y (.int .u8 a) (.int .u8 b)).run Try.prog W = .ok () W := by kernel_rfl
theorem eq77 {W : World} : (binOp .eql 5 (.int .u8 77) (.int .u8 77)).run Try.prog W = .ok (.bool true) W := by kernel_rfl
theorem own_form {U : TypeId} {w : World} {base : Nat} {v : Value} {l : List UInt8} (h : Own U w base v l) (hne : l ≠ []) : ∃ g c, v = .slice (some ⟨g, 0, none⟩) l.length c ∧ l.length ≤ c ∧ c ≤ 9223372036854775807 ∧ base ≤ g ∧ Rd w (some ⟨g, 0, none⟩) l := by
  obtain ⟨A, c, rfl, h1, h2, h3⟩ := h.slice
  obtain ⟨h4, h5⟩ := id h
  rcases h5 with ⟨e, _⟩ | ⟨g, cap, cur, e, hb, _⟩
  · injection e with e1 e2 e3
    exact absurd (List.eq_nil_of_length_eq_zero e2) hne
  · injection e with e1 e2 e3
    subst e1 e3
    exact ⟨g, c, rfl, h1, by unfold maxLen at h2; omega, hb, h3⟩
set_option maxRecDepth 100000 in
set_option maxHeartbeats 4000000 in
theorem hmacTags_main (A : Option Addr) (n ca : Nat) (key : List UInt8) (B : Option Addr) (m cb : Nat) (ls : List (List UInt8)) (w : World) (hn : key.length = n) (hc : n ≤ ca) (hcm : ca ≤ 9223372036854775807) (hr : Rd w A key)
    (hls : ls.length = m) (hm : m ≤ 9223372036854775807) (hrs : RdsC w B ls) (hn3 : n ≤ 300) (hf : fits ls 15) :
    Calls Try.prog 7 #[.slice A n ca, .slice B m cb] w fun e w' => e = .returned (.bool true) ∧ Below w.heap.size w w' := by
  have hd1 : decide (300 < n) = false := by simp; omega
  have hd1' : decide ((300 : Int) < (n : Int)) = false := by simp; omega
  have hfl := fits_len hf
  obtain ⟨T, hT⟩ : ∃ q, Hm.tag key ls.flatten = q := ⟨_, rfl⟩
  have hTl : T.length = 32 := by rw [← hT]; exact Hm.tag_len _ _
  have hfew := few_any B m cb ls 15 w hls (by decide) hm hrs
  have HN := Lib.hid hn
  have HTL := Lib.hid hTl
  have HT := Lib.hid hT
  have HF := Lib.hid hf
  have HFL := Lib.hid hfl
  have HLS := Lib.hid hls
  clear hn hTl hT hf hfl hls
  go_enter Try.func7, Try.ntmps7
  go_upto_region 2 with (first
    | (go_at_call 9; refine hfew.mono ?_; clear hfew; rintro e w2 ⟨⟨_, v, rfl, hown⟩ | ⟨hno, _⟩, hb2⟩; rotate_left; exact absurd HF.out hno)
    | fail)
  obtain ⟨A2, c2, rfl, h21, h22, h2r⟩ := hown.slice
  have hL2 : Later w w2 := hb2
  have hra := hr.later hL2
  obtain ⟨fl, hfl⟩ : ∃ q, ls.flatten = q := ⟨_, rfl⟩
  rw [hfl] at h2r HT HFL
  rw [hfl]
  have HFE := Lib.hid hfl
  have hkn : (key ++ [77]).length = n + 1 := by rw [List.length_append, HN.out]; rfl
  have HKN := Lib.hid hkn
  clear hown hb2 hfl h21 h22 hkn
  go_upto_region 5 with (first
    | (at_builtin; refine wpList_append_bytes rfl (.tmp 22) (.tmp 23) 22 rfl w2.heap.size 5 Try.underlying22 byteInfo8 _ [] rfl (own_void w2 _ _ (Nat.le_refl _)) A n ca key rfl HN.out (hra.alloc _) (by simp; omega) (by simp only [World.size_alloc]; omega) ?_; intro v3 w3 hown3 hg3 hat3; rw [List.nil_append] at hown3; have hL3 : Later w2 w3 := (below_new w2 (.cells #[] 5)).grown hg3 (by simp only [World.size_alloc]; omega) (fun j e => (own_void w2 5 w2.heap.size (Nat.le_refl _)).at_ j e |>.1))
    | (at_builtin; refine wpList_append_bytes rfl (.tmp 24) (.tmp 25) 22 rfl w2.heap.size 5 Try.underlying22 byteInfo8 _ key rfl (hown3.alloc _) (some ⟨w3.heap.size, 0, none⟩) 1 1 [77] rfl rfl (Rd.byte1 rfl) (by rw [HN.out]; omega) (by have := hL3.size; simp only [World.size_alloc]; omega) ?_; intro v4 w4 hown4 hg4 hat4; have hL4 : Later w2 w4 := Below.grown (hL3.alloc _) hg4 (by have := hL3.size; simp only [World.size_alloc]; omega) (fun j e => (hown3.at_ j e).1); obtain ⟨gk, ck, rfl, hk1, hk2, hk3, hkr⟩ := own_form hown4 (by simp); rw [HKN.out] at hk1; rw [HKN.out]; have hsl0 : ∀ w' : World, (Instr.sliceAt 22 (.slice (some ⟨gk, 0, none⟩) (n + 1) ck) none (some (.int .i64 (n : Int))) none).run Try.prog w' = .ok (.slice (some ⟨gk, 0, none⟩) n ck) w' := run_slice_upto (k := n) Try.underlying22 byteInfo8 (by omega))
    | fail)
  have hLw4 : Later w w4 := hL2.step hL4
  have hkey : Rd w4 (some ⟨gk, 0, none⟩) key := by
    have := hkr.take n
    rwa [List.take_append_of_le_length (by rw [HN.out]; exact Nat.le_refl _), List.take_of_length_le (by rw [HN.out]; exact Nat.le_refl _)] at this
  have h77 : w4.cell? ⟨gk, n, none⟩ = some (.int .u8 77) := by
    obtain ⟨b, o, e, hcx⟩ := hkr.at_ (k := n) (by rw [HKN.out]; omega)
    injection e with e
    injection e with e1 e2
    subst e1 e2
    rw [Nat.zero_add] at hcx
    rw [hcx]
    have e3 := HN.out
    subst e3
    simp
  have h2r4 := h2r.later hL4
  have hra4 := hra.later hL4
  have hrs4 := hrs.below hLw4
  have htag := hmTag_any (some ⟨gk, 0, none⟩) n ck key B m cb ls w4 HN.out (by omega) (by omega) (by omega) hkey HLS.out (by have := HF.out.1; have := HLS.out; omega) (by rw [HFE.out]; have := HFL.out; omega) hrs4
  rw [HFE.out, HT.out] at htag
  clear hsl0 hown3 hg3 hat3 hg4 hat4 hown4 hL3 hL4 hL2 hkr h2r hra
  go_upto_region 6 with (first
    | (go_at_call 20; refine htag.mono ?_; clear htag; rintro e w5 ⟨rfl, hb5⟩; obtain ⟨w6, hst6, hr8, hg6⟩ := storeH (a := []) (b := T) (by simp) (by rw [HTL.out]; omega) (Row.new w5 25 (hC [])))
    | (with_reducible refine wpList_alloc rfl 25 rfl (allocH _) ?_)
    | (refine wpList_store rfl 25 (.tmp 8) (.tmp 32) rfl (.pointer (some ⟨w5.heap.size, 0, none⟩)) (.agg (hC T)) rfl rfl hst6 ?_)
    | fail)
  have hL5 : Later w4 w5 := hb5
  have hL6 : Later w4 w6 := Below.grown (hL5.alloc _) hg6 (by have := hL5.size; simp only [World.size_alloc]; omega) (fun j e => by cases e; exact hL5.size)
  obtain ⟨g8, hg8⟩ : ∃ q, q = w5.heap.size := ⟨_, rfl⟩
  rw [← hg8] at hr8 ⊢
  have hrk := hkey.later hL6
  have hrb := hra4.later hL6
  have hrf := h2r4.later hL6
  have hrl := hrs4.below hL6
  have h77' := hL6.cell h77
  have hLw6 := hLw4.step hL6
  clear hst6 hg6 hg8 hL5 hb5 hL6 hkey hra4 h2r4 hrs4 h77 hLw4
  have hm15 : m ≤ 15 := by rw [← HLS.out]; exact HF.out.1
  have href : ∀ W, Later w6 W → Calls Try.prog 11 #[.slice A n ca, .slice A2 fl.length c2] W fun e w' => e = .returned (.agg (hC T)) ∧ Below W.heap.size W w' := fun W hL => by
    have := refTag_any A n ca key A2 fl.length c2 fl W HN.out rfl (by omega) (by have := HFL.out; omega) hc hcm (hrb.later hL) (hrf.later hL)
    rwa [HT.out] at this
  have hext : ∀ W, Later w6 W → Calls Try.prog 23 #[.slice (some ⟨gk, 0, none⟩) n ck, .slice B m cb] W fun e w' => e = .returned (.agg (hC T)) ∧ Below W.heap.size W w' := fun W hL => by
    have := extract_any (some ⟨gk, 0, none⟩) n ck key B m cb ls W HN.out (by omega) (by omega) (by omega) (hrk.later hL) HLS.out (by omega) (by rw [HFE.out]; have := HFL.out; omega) (hrl.below hL)
    rwa [HFE.out, HT.out] at this
  have hsk : ∀ W : World, (Instr.sliceAt 22 (.slice (some ⟨gk, 0, none⟩) n ck) none (some (.int .i64 ((n : Int) + 1))) none).run Try.prog W = .ok (.slice (some ⟨gk, 0, none⟩) (n + 1) ck) W := fun W => run_slice_upto (k := n + 1) Try.underlying22 byteInfo8 hk1 W
  have HREF := Lib.hid href
  have HEXT := Lib.hid hext
  have HSK := Lib.hid hsk
  have HIX := Lib.hid (idxSl gk n ck (by omega))
  clear href hext hsk hrs hrf hrl HFE
  refine (wpIn_wide (n := 0)).1 ?_
  refine wpIn_region_vals wide_wide [Pr.eq (.agg (hC T)), Pr.eq (.slice A n ca), Pr.eq (.slice A2 fl.length c2), Pr.eq (.agg (hC T)), Pr.eq (.bool true), Pr.eq (.bool true), Pr.eq (.slice (some ⟨gk, 0, none⟩) n ck), Pr.eq (.slice B m cb), Pr.eq (.agg (hC T)), Pr.eq (.agg (hC T)), Pr.eq (.bool true), Pr.eq (.bool true), Pr.eq (.bool true), Pr.eq (.slice (some ⟨gk, 0, none⟩) n ck), Pr.eq (.string ⟨key.toArray⟩), Pr.eq (.slice A n ca), Pr.eq (.string ⟨key.toArray⟩), Pr.eq (.bool true), Pr.eq (.bool true), Pr.eq (.bool true), Pr.eq (.slice (some ⟨gk, 0, none⟩) n ck), Pr.eq (.slice A n ca), Pr.eq (.int .i64 (n : Int)), Pr.eq (.int .i64 ((n : Int) + 1)), Pr.eq (.slice (some ⟨gk, 0, none⟩) (n + 1) ck), Pr.eq (.slice A n ca), Pr.eq (.int .i64 (n : Int)), Pr.eq (.pointer (some ⟨gk, n, none⟩)), Pr.eq (.int .u8 77), Pr.eq (.bool true), Pr.eq (.bool true), Pr.eq (.bool true), Pr.eq (.bool true), Pr.eq (.bool true), Pr.eq (.bool true)] (by kernel_rfl) (by kernel_rfl) (by kernel_rfl) (by kernel_rfl) (by kernel_rfl) ⟨?_, ?_, ?_, ?_, ?_, ?_, ?_, ?_, ?_, ?_, ?_, ?_, ?_, ?_, ?_, ?_, ?_, ?_, ?_, ?_, ?_, ?_, ?_, ?_, ?_, ?_, ?_, ?_, ?_, ?_, ?_, ?_, ?_, ?_, ?_, trivial⟩ ?_
  · exact fun ac W hL he => stepOk_want rfl (op_load rfl (he.keep (.tmp 8) (by kernel_rfl)) (loadH HTL.out (hr8.later hL)) rfl)
  · exact fun ac W hL he => stepOk_want rfl (op_move rfl (he.keep (.tmp 0) (by kernel_rfl)))
  · exact fun ac W hL he => stepOk_want rfl (op_move rfl (he.keep (.tmp 5) (by kernel_rfl)))
  · intro ac W hL he; refine stepOk_want rfl ?_; have e0 : ac.eval (.tmp 34) = (.slice A n ca) := (he.get 1 34 (by kernel_rfl) rfl); have e1 : ac.eval (.tmp 35) = (.slice A2 fl.length c2) := (he.get 2 35 (by kernel_rfl) rfl); exact op_callF (vs := #[.slice A n ca, .slice A2 fl.length c2]) rfl (by simp only [List.map_toArray, List.map_cons, List.map_nil, e0, e1]) (enters_of Try.func11 (by kernel_rfl) rfl) ((HREF.out W hL).mono fun e W' ⟨he', hb⟩ => ⟨_, he', hb, rfl⟩)
  · exact fun ac W hL he => stepOk_want rfl (op_binOp rfl (he.get 0 33 (by kernel_rfl) rfl) (he.get 3 36 (by kernel_rfl) rfl) (eqgHash _ _ _ _ _ W) (eqlSame T HTL.out W) rfl)
  · exact fun ac W hL he => stepOk_want rfl (op_move rfl (he.get 4 37 (by kernel_rfl) rfl))
  · exact fun ac W hL he => stepOk_yes (j := 5) (t := 38) (b := true) rfl rfl (he.get 5 38 (by kernel_rfl) rfl) (op_move rfl (he.keep (.tmp 7) (by kernel_rfl)))
  · exact fun ac W hL he => stepOk_yes (j := 5) (t := 38) (b := true) rfl rfl (he.get 5 38 (by kernel_rfl) rfl) (op_move rfl (he.keep (.tmp 1) (by kernel_rfl)))
  · intro ac W hL he; refine stepOk_yes (j := 5) (t := 38) (b := true) rfl rfl (he.get 5 38 (by kernel_rfl) rfl) ?_; have e0 : ac.eval (.tmp 39) = (.slice (some ⟨gk, 0, none⟩) n ck) := (he.get 6 39 (by kernel_rfl) rfl); have e1 : ac.eval (.tmp 40) = (.slice B m cb) := (he.get 7 40 (by kernel_rfl) rfl); exact op_callF (vs := #[.slice (some ⟨gk, 0, none⟩) n ck, .slice B m cb]) rfl (by simp only [List.map_toArray, List.map_cons, List.map_nil, e0, e1]) (enters_of Try.func23 (by kernel_rfl) rfl) ((HEXT.out W hL).mono fun e W' ⟨he', hb⟩ => ⟨_, he', hb, rfl⟩)
  · exact fun ac W hL he => stepOk_yes (j := 5) (t := 38) (b := true) rfl rfl (he.get 5 38 (by kernel_rfl) rfl) (op_load rfl (he.keep (.tmp 8) (by kernel_rfl)) (loadH HTL.out (hr8.later hL)) rfl)
  · exact fun ac W hL he => stepOk_yes (j := 5) (t := 38) (b := true) rfl rfl (he.get 5 38 (by kernel_rfl) rfl) (op_binOp rfl (he.get 8 41 (by kernel_rfl) rfl) (he.get 9 42 (by kernel_rfl) rfl) (eqgHash _ _ _ _ _ W) (eqlSame T HTL.out W) rfl)
  · exact fun ac W hL he => stepOk_want rfl (op_pick (b := true) rfl (he.get 5 38 (by kernel_rfl) rfl) (he.get 10 43 (by kernel_rfl) rfl))
  · exact fun ac W hL he => stepOk_want rfl (op_move rfl (he.get 11 44 (by kernel_rfl) rfl))
  · exact fun ac W hL he => stepOk_yes (j := 12) (t := 45) (b := true) rfl rfl (he.get 12 45 (by kernel_rfl) rfl) (op_move rfl (he.keep (.tmp 7) (by kernel_rfl)))
  · exact fun ac W hL he => stepOk_yes (j := 12) (t := 45) (b := true) rfl rfl (he.get 12 45 (by kernel_rfl) rfl) (op_convert rfl (he.get 13 46 (by kernel_rfl) rfl) (run_string_rd W 22 9 5 _ n ck key Try.underlying22 Try.underlying5 Try.underlying9 HN.out (hrk.later hL)) (Later.refl _) rfl)
  · exact fun ac W hL he => stepOk_yes (j := 12) (t := 45) (b := true) rfl rfl (he.get 12 45 (by kernel_rfl) rfl) (op_move rfl (he.keep (.tmp 0) (by kernel_rfl)))
  · exact fun ac W hL he => stepOk_yes (j := 12) (t := 45) (b := true) rfl rfl (he.get 12 45 (by kernel_rfl) rfl) (op_convert rfl (he.get 15 48 (by kernel_rfl) rfl) (run_string_rd W 22 9 5 _ n ca key Try.underlying22 Try.underlying5 Try.underlying9 HN.out (hrb.later hL)) (Later.refl _) rfl)
  · exact fun ac W hL he => stepOk_yes (j := 12) (t := 45) (b := true) rfl rfl (he.get 12 45 (by kernel_rfl) rfl) (op_binOp rfl (he.get 14 47 (by kernel_rfl) rfl) (he.get 16 49 (by kernel_rfl) rfl) eqg_str eql_str rfl)
  · exact fun ac W hL he => stepOk_want rfl (op_pick (b := true) rfl (he.get 12 45 (by kernel_rfl) rfl) (he.get 17 50 (by kernel_rfl) rfl))
  · exact fun ac W hL he => stepOk_want rfl (op_move rfl (he.get 18 51 (by kernel_rfl) rfl))
  · exact fun ac W hL he => stepOk_yes (j := 19) (t := 52) (b := true) rfl rfl (he.get 19 52 (by kernel_rfl) rfl) (op_move rfl (he.keep (.tmp 7) (by kernel_rfl)))
  · exact fun ac W hL he => stepOk_yes (j := 19) (t := 52) (b := true) rfl rfl (he.get 19 52 (by kernel_rfl) rfl) (op_move rfl (he.keep (.tmp 0) (by kernel_rfl)))
  · exact fun ac W hL he => stepOk_yes (j := 19) (t := 52) (b := true) rfl rfl (he.get 19 52 (by kernel_rfl) rfl) (op_len Try.underlying22 rfl (he.get 21 54 (by kernel_rfl) rfl) rfl)
  · exact fun ac W hL he => stepOk_yes (j := 19) (t := 52) (b := true) rfl rfl (he.get 19 52 (by kernel_rfl) rfl) (op_binOp rfl (he.get 22 55 (by kernel_rfl) rfl) rfl eqg_add (addI (x := (n : Int)) (y := 1) (by omega) (by omega)) rfl)
  · exact fun ac W hL he => stepOk_yes (j := 19) (t := 52) (b := true) rfl rfl (he.get 19 52 (by kernel_rfl) rfl) (op_slice (W' := W) rfl (he.get 20 53 (by kernel_rfl) rfl) rfl (congrArg some (he.get 23 56 (by kernel_rfl) rfl)) rfl (HSK.out W) rfl)
  · exact fun ac W hL he => stepOk_yes (j := 19) (t := 52) (b := true) rfl rfl (he.get 19 52 (by kernel_rfl) rfl) (op_move rfl (he.keep (.tmp 0) (by kernel_rfl)))
  · exact fun ac W hL he => stepOk_yes (j := 19) (t := 52) (b := true) rfl rfl (he.get 19 52 (by kernel_rfl) rfl) (op_len Try.underlying22 rfl (he.get 25 58 (by kernel_rfl) rfl) rfl)
  · exact fun ac W hL he => stepOk_yes (j := 19) (t := 52) (b := true) rfl rfl (he.get 19 52 (by kernel_rfl) rfl) (op_idx rfl (he.get 24 57 (by kernel_rfl) rfl) (he.get 26 59 (by kernel_rfl) rfl) (HIX.out W) rfl)
  · exact fun ac W hL he => stepOk_yes (j := 19) (t := 52) (b := true) rfl rfl (he.get 19 52 (by kernel_rfl) rfl) (op_load rfl (he.get 27 60 (by kernel_rfl) rfl) (load8 (hL.cell h77')) rfl)
  · exact fun ac W hL he => stepOk_yes (j := 19) (t := 52) (b := true) rfl rfl (he.get 19 52 (by kernel_rfl) rfl) (op_binOp rfl (he.get 28 61 (by kernel_rfl) rfl) rfl eqg_88t eq77 rfl)
  · exact fun ac W hL he => stepOk_want rfl (op_pick (b := true) rfl (he.get 19 52 (by kernel_rfl) rfl) (he.get 29 62 (by kernel_rfl) rfl))
  · exact fun ac W hL he => stepOk_want rfl (op_move rfl (he.get 30 63 (by kernel_rfl) rfl))
  · intro ac W hL he; refine stepOk_yes (j := 31) (t := 64) (b := true) rfl rfl (he.get 31 64 (by kernel_rfl) rfl) ?_; exact op_callF (vs := #[]) rfl (by simp) (enters_of Try.func10 (by kernel_rfl) rfl) ((works2_yes W).mono fun e W' ⟨he', hb⟩ => ⟨_, he', hb, rfl⟩)
  · exact fun ac W hL he => stepOk_want rfl (op_pick (b := true) rfl (he.get 31 64 (by kernel_rfl) rfl) (he.get 32 65 (by kernel_rfl) rfl))
  · exact fun ac W hL he => stepOk_want rfl (op_assign rfl (he.get 33 66 (by kernel_rfl) rfl))
  intro xs W hL hxs
  have he4 : xs 34 = .bool true := hxs 34 (by decide)
  clear hxs
  simp only [putL, Nat.reduceAdd, Act.put, List.setIfInBounds_toArray, List.set_cons_succ, List.set_cons_zero, he4]
  go_wp2_with fail
  go_ret
  exact ⟨rfl, hLw6.step hL⟩
set_option maxRecDepth 100000 in
set_option maxHeartbeats 2000000 in
theorem hmacTags_out (A : Option Addr) (n ca : Nat) (B : Option Addr) (m cb : Nat) (ls : List (List UInt8)) (w : World) (hnm : n ≤ 9223372036854775807)
    (hls : ls.length = m) (hm : m ≤ 9223372036854775807) (hrs : RdsC w B ls) (hout : ¬ fits ls 15 ∨ 300 < n) :
    Calls Try.prog 7 #[.slice A n ca, .slice B m cb] w fun e w' => e = .returned (.bool true) ∧ Below w.heap.size w w' := by
  have hfew := few_any B m cb ls 15 w hls (by decide) hm hrs
  by_cases hf : fits ls 15
  · have h1 : 300 < n := by
      rcases hout with h | h
      · exact absurd hf h
      · exact h
    have hd1 : decide (300 < n) = true := by simpa using h1
    have hd1' : decide ((300 : Int) < (n : Int)) = true := by simp; omega
    clear hout
    go_enter Try.func7, Try.ntmps7
    go_wp2_with (first
      | (go_at_call 9; refine hfew.mono ?_; clear hfew; rintro e w2 ⟨⟨_, v, rfl, hown⟩ | ⟨hno, _⟩, hb2⟩; rotate_left; exact absurd hf hno)
      | (go_at_call 10; refine (works2_yes _).mono ?_; rintro e w3 ⟨rfl, hb3⟩)
      | fail)
    go_ret
    exact ⟨rfl, Later.step hb2 hb3⟩
  · clear hout
    go_enter Try.func7, Try.ntmps7
    go_wp2_with (first
      | (go_at_call 9; refine hfew.mono ?_; clear hfew; rintro e w2 ⟨⟨hyes, _⟩ | ⟨_, rfl⟩, hb2⟩; exact absurd hyes hf)
      | (go_at_call 10; refine (works2_yes _).mono ?_; rintro e w3 ⟨rfl, hb3⟩)
      | fail)
    go_ret
    exact ⟨rfl, Later.step hb2 hb3⟩
theorem hmacTags_walk (A : Option Addr) (n ca : Nat) (key : List UInt8) (B : Option Addr) (m cb : Nat) (ls : List (List UInt8)) (w : World) (hi : InBytes w A n ca key) (hj : InRowsC w B m cb ls) :
    Calls Try.prog 7 #[.slice A n ca, .slice B m cb] w fun e w' => e = .returned (.bool true) ∧ Below w.heap.size w w' := by
  have h1 := hi.cap
  have h2 := hi.most
  have h3 := hj.cap
  have h4 := hj.most
  unfold maxLen at h2 h4
  by_cases hout : ¬ fits ls 15 ∨ 300 < n
  · exact hmacTags_out A n ca B m cb ls w (by omega) hj.len (by omega) hj.rd hout
  · have hf : fits ls 15 := Classical.byContradiction fun h => hout (.inl h)
    exact hmacTags_main A n ca key B m cb ls w hi.len h1 (by omega) hi.rd hj.len (by omega) hj.rd (by omega) hf
end Go.Proofs.Ytbjclmfhmdalkaa
