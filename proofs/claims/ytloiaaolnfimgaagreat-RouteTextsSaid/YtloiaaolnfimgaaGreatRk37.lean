/- Walks, route: RouteTexts. -/
import Derived.Test.YtloiaaolnfimgaaGreatRk36
import Derived.Test.YtloiaaolnfimgaaGreatRk34
import Derived.Test.YtloiaaolnfimgaaGreatRk25
import Derived.Test.YtloiaaolnfimgaaGreatRk11
set_option linter.unusedVariables false
set_option linter.unusedSimpArgs false
namespace Go.Proofs.YtloiaaolnfimgaaGreat
open Go.RowKit Rt
theorem eqStrMe (a : ByteArray) (w : World) : (binOp .eql 9 (.string a) (.string a)).run Tryz.prog w = .ok (.bool true) w := by
  go_simp
theorem eqIntMe (a : Int) (w : World) : (binOp .eql 3 (.int .i64 a) (.int .i64 a)).run Tryz.prog w = .ok (.bool true) w := by
  have h : (binOp .eql 3 (.int .i64 a) (.int .i64 a)).run Tryz.prog w = .ok (.bool (a == a)) w := by kernel_rfl
  rw [h]
  congr 2
  simp
set_option maxRecDepth 100000 in
set_option maxHeartbeats 4000000 in
theorem routeTexts_walk (v : Value) (s0 : ByteArray) {Z : Prop} (ws : Z) (w : World) (hv : ∃ h : Hop, h.wf ∧ v = .agg (hopC h)) :
    Calls Tryz.prog 6 #[v, .string s0] w fun e w' => e = .returned (.bool true) ∧ Below w.heap.size w w' := by
  obtain ⟨h, hw, rfl⟩ := hv
  obtain ⟨s, rfl⟩ : ∃ l : List UInt8, s0 = ⟨l.toArray⟩ := ⟨s0.data.toList, by simp⟩
  clear ws
  refine Calls.post fun Φ HΦ => ?_
  have hbx := boxInv hw w
  have hr := Row.new w 51 (hopC h)
  have hL : Later w (w.alloc (.cells (hopC h) 51)) := below_new w _
  have hsz : (⟨s.toArray⟩ : ByteArray).size = s.length := rfl
  have HW := Lib.hid (fun W => works_yes W)
  by_cases h4 : 400 < s.length
  · have d1 : decide ((s.length : Int) > 400) = true := decide_eq_true (by omega)
    have d1' : decide (400 < s.length) = true := decide_eq_true h4
    have d1'' : decide (400 < (s.length : Int)) = true := decide_eq_true (by omega)
    have HL := Lib.hid hL
    clear hr hL
    go_enter Tryz.func6, Tryz.ntmps6
    go_wp2_with (first
      | (guard_target =~ wpList _ _ _ (_ :: _) _ _; refine wpList_box rfl 51 (.tmp 0) rfl (.agg (hopC h)) rfl hbx ?_)
      | (go_at_call 8; refine (HW.out _).mono ?_; rintro e w2 ⟨rfl, hL2⟩)
      | fail)
    exact HΦ.out _ _ ⟨rfl, (HL.out.step hL2).below⟩
  have d1 : decide ((s.length : Int) > 400) = false := decide_eq_false (by omega)
  have d1' : decide (400 < s.length) = false := decide_eq_false h4
  have d1'' : decide (400 < (s.length : Int)) = false := decide_eq_false (by omega)
  have hs : s.length ≤ 400 := by omega
  have hld := loadInv hw hr
  have hlt := hr.lt
  go_enter Tryz.func6, Tryz.ntmps6
  go_upto_region 3 with (first
    | (guard_target =~ wpList _ _ _ (_ :: _) _ _; refine wpList_box rfl 51 (.tmp 0) rfl (.agg (hopC h)) rfl hbx ?_)
    | fail)
  clear hbx h4 d1 d1' d1''
  obtain ⟨g, hg⟩ : ∃ g, g = w.heap.size := ⟨_, rfl⟩
  have HL := Lib.hid hL
  rw [← hg] at hr hld hlt ⊢
  have HG := Lib.hid hg
  clear hg hL
  generalize w.alloc (.cells (hopC h) 51) = w1 at *
  obtain ⟨t, ht⟩ : ∃ t, (Rt.text h).1 = t := ⟨_, rfl⟩
  obtain ⟨e, he⟩ : ∃ e, (Rt.text h).2 = e := ⟨_, rfl⟩
  obtain ⟨x, hx⟩ : ∃ x, (Rt.parse s).1 = x := ⟨_, rfl⟩
  obtain ⟨f, hf⟩ : ∃ f, (Rt.parse s).2 = f := ⟨_, rfl⟩
  have hxw := parse_wf s
  have c1 := fun W => rtext_any h hw W
  have c2 := fun W => refText_main h hw W
  have c3 := fun W => parse_any2 s W
  have c4 := fun W => refParse25_any s W (by omega)
  simp only [ht, he] at c1 c2
  simp only [hx, hf] at c3 c4
  rw [hx] at hxw
  clear ht he hx hf
  go_upto_region 4 with (first
    | (guard_target =~ wpList _ _ _ (_ :: _) _ _; refine wpList_load rfl 51 (.tmp 2) rfl (.pointer (some ⟨g, 0, none⟩)) rfl hld ?_)
    | (go_at_call 16; refine (c1 _).mono ?_; rintro e1 w2 ⟨rfl, hb2⟩)
    | fail)
  have hr2 := hr.belowAll hb2
  have hld2 := loadInv hw hr2
  clear hld c1
  go_upto_region 5 with (first
    | (guard_target =~ wpList _ _ _ (_ :: _) _ _; refine wpList_load rfl 51 (.tmp 2) rfl (.pointer (some ⟨g, 0, none⟩)) rfl hld2 ?_)
    | (go_at_call 17; refine (c2 _).mono ?_; rintro e1 w3 ⟨rfl, hb3⟩)
    | fail)
  have HL3 := Lib.hid ((HL.out.step hb2).step hb3)
  clear hld2 c2 hr hr2 hb2 hb3 HL
  go_upto_region 6 with (first
    | (go_at_call 18; refine (c3 _).mono ?_; clear c3; rintro e1 w4 ⟨rfl, hb4⟩; obtain ⟨w5, hst5, k5, hL5⟩ := newInv w4 hxw)
    | (with_reducible refine wpList_alloc rfl 51 rfl (allocInv _) ?_)
    | (guard_target =~ wpList _ _ _ (_ :: _) _ _; refine wpList_store rfl 51 (.tmp 9) (.tmp 30) rfl (.pointer (some ⟨w4.heap.size, 0, none⟩)) (.agg (hopC x)) rfl rfl hst5 ?_)
    | fail)
  obtain ⟨g9, hg9⟩ : ∃ g, g = w4.heap.size := ⟨_, rfl⟩
  rw [← hg9] at k5 ⊢
  have HL5 := Lib.hid ((HL3.out.step hb4).step hL5)
  clear hst5 hL5 hb4 hg9
  go_upto_region 7 with (first
    | (go_at_call 19; refine (c4 _).mono ?_; clear c4; rintro e1 w6 ⟨rfl, hb6⟩; obtain ⟨w7, hst7, k7, hL7⟩ := newInv w6 hxw)
    | (with_reducible refine wpList_alloc rfl 51 rfl (allocInv _) ?_)
    | (guard_target =~ wpList _ _ _ (_ :: _) _ _; refine wpList_store rfl 51 (.tmp 11) (.tmp 35) rfl (.pointer (some ⟨w6.heap.size, 0, none⟩)) (.agg (hopC x)) rfl rfl hst7 ?_)
    | fail)
  obtain ⟨g11, hg11⟩ : ∃ g, g = w6.heap.size := ⟨_, rfl⟩
  rw [← hg11] at k7 ⊢
  have HL7 := Lib.hid ((HL5.out.step hb6).step hL7)
  have k9 := (k5.later hb6).later hL7
  clear hst7 hL7 hb6 hg11 k5
  refine wp_region_seqL [Pr.eq (.string ⟨t.toArray⟩), Pr.eq (.string ⟨t.toArray⟩), Pr.eq (.bool true), Pr.eq (.bool true), Pr.eq (.int .i64 e), Pr.eq (.int .i64 e), Pr.eq (.int .i64 e), Pr.eq (.bool true), Pr.eq (.bool true), Pr.eq (.bool true), Pr.eq (.agg (hopC x)), Pr.eq (.agg (hopC x)), Pr.eq (.bool true), Pr.eq (.bool true), Pr.eq (.bool true), Pr.eq (.int .i64 f), Pr.eq (.int .i64 f), Pr.eq (.int .i64 f), Pr.eq (.bool true), Pr.eq (.bool true), Pr.eq (.bool true), Pr.eq (.bool true), Pr.eq (.bool true), Pr.eq (.bool true)] (by kernel_rfl) (by kernel_rfl) (by kernel_rfl) ⟨?_, ?_, ?_, ?_, ?_, ?_, ?_, ?_, ?_, ?_, ?_, ?_, ?_, ?_, ?_, ?_, ?_, ?_, ?_, ?_, ?_, ?_, ?_, ?_, trivial⟩ ?_
  · exact fun ac W hL he => stepOk_want rfl (op_move rfl (he.keep (.tmp 5) (by kernel_rfl)))
  · exact fun ac W hL he => stepOk_want rfl (op_move rfl (he.keep (.tmp 7) (by kernel_rfl)))
  · exact fun ac W hL he => stepOk_want rfl (op_binOp rfl (he.get 0 37 (by kernel_rfl) rfl) (he.get 1 38 (by kernel_rfl) rfl) (by kernel_rfl) (eqStrMe _ _) rfl)
  · exact fun ac W hL he => stepOk_want rfl (op_move rfl (he.get 2 39 (by kernel_rfl) rfl))
  · exact fun ac W hL he => stepOk_yes (j := 3) (t := 40) (b := true) rfl rfl (he.get 3 40 (by kernel_rfl) rfl) (op_move rfl (he.keep (.tmp 6) (by kernel_rfl)))
  · intro ac W hL he; refine stepOk_yes (j := 3) (t := 40) (b := true) rfl rfl (he.get 3 40 (by kernel_rfl) rfl) ?_; have e0 : ac.eval (.tmp 41) = .int .i64 e := (he.get 4 41 (by kernel_rfl) rfl); exact op_callF (vs := #[.int .i64 e]) rfl (by simp only [List.map_toArray, List.map_cons, List.map_nil, e0]) (enters_of Tryz.func11 (by kernel_rfl) rfl) (((rnum_any e W)).mono fun e W' ⟨he', hw'⟩ => ⟨_, he', hw' ▸ Later.refl _, rfl⟩)
  · exact fun ac W hL he => stepOk_yes (j := 3) (t := 40) (b := true) rfl rfl (he.get 3 40 (by kernel_rfl) rfl) (op_move rfl (he.keep (.tmp 8) (by kernel_rfl)))
  · exact fun ac W hL he => stepOk_yes (j := 3) (t := 40) (b := true) rfl rfl (he.get 3 40 (by kernel_rfl) rfl) (op_binOp rfl (he.get 5 42 (by kernel_rfl) rfl) (he.get 6 43 (by kernel_rfl) rfl) (by kernel_rfl) (eqIntMe _ _) rfl)
  · exact fun ac W hL he => stepOk_want rfl (op_pick (b := true) rfl (he.get 3 40 (by kernel_rfl) rfl) (he.get 7 44 (by kernel_rfl) rfl))
  · exact fun ac W hL he => stepOk_want rfl (op_move rfl (he.get 8 45 (by kernel_rfl) rfl))
  · exact fun ac W hL he => stepOk_yes (j := 9) (t := 46) (b := true) rfl rfl (he.get 9 46 (by kernel_rfl) rfl) (op_load rfl (he.keep (.tmp 9) (by kernel_rfl)) (loadInv hxw (k9.later hL)) rfl)
  · exact fun ac W hL he => stepOk_yes (j := 9) (t := 46) (b := true) rfl rfl (he.get 9 46 (by kernel_rfl) rfl) (op_load rfl (he.keep (.tmp 11) (by kernel_rfl)) (loadInv hxw (k7.later hL)) rfl)
  · exact fun ac W hL he => stepOk_yes (j := 9) (t := 46) (b := true) rfl rfl (he.get 9 46 (by kernel_rfl) rfl) (op_binOp rfl (he.get 10 47 (by kernel_rfl) rfl) (he.get 11 48 (by kernel_rfl) rfl) (eqgInv _ _ _ _ _ _) (eqInvMe hxw _) rfl)
  · exact fun ac W hL he => stepOk_want rfl (op_pick (b := true) rfl (he.get 9 46 (by kernel_rfl) rfl) (he.get 12 49 (by kernel_rfl) rfl))
  · exact fun ac W hL he => stepOk_want rfl (op_move rfl (he.get 13 50 (by kernel_rfl) rfl))
  · exact fun ac W hL he => stepOk_yes (j := 14) (t := 51) (b := true) rfl rfl (he.get 14 51 (by kernel_rfl) rfl) (op_move rfl (he.keep (.tmp 10) (by kernel_rfl)))
  · intro ac W hL he; refine stepOk_yes (j := 14) (t := 51) (b := true) rfl rfl (he.get 14 51 (by kernel_rfl) rfl) ?_; have e0 : ac.eval (.tmp 52) = .int .i64 f := (he.get 15 52 (by kernel_rfl) rfl); exact op_callF (vs := #[.int .i64 f]) rfl (by simp only [List.map_toArray, List.map_cons, List.map_nil, e0]) (enters_of Tryz.func11 (by kernel_rfl) rfl) (((rnum_any f W)).mono fun e W' ⟨he', hw'⟩ => ⟨_, he', hw' ▸ Later.refl _, rfl⟩)
  · exact fun ac W hL he => stepOk_yes (j := 14) (t := 51) (b := true) rfl rfl (he.get 14 51 (by kernel_rfl) rfl) (op_move rfl (he.keep (.tmp 12) (by kernel_rfl)))
  · exact fun ac W hL he => stepOk_yes (j := 14) (t := 51) (b := true) rfl rfl (he.get 14 51 (by kernel_rfl) rfl) (op_binOp rfl (he.get 16 53 (by kernel_rfl) rfl) (he.get 17 54 (by kernel_rfl) rfl) (by kernel_rfl) (eqIntMe _ _) rfl)
  · exact fun ac W hL he => stepOk_want rfl (op_pick (b := true) rfl (he.get 14 51 (by kernel_rfl) rfl) (he.get 18 55 (by kernel_rfl) rfl))
  · exact fun ac W hL he => stepOk_want rfl (op_move rfl (he.get 19 56 (by kernel_rfl) rfl))
  · intro ac W hL he; refine stepOk_yes (j := 20) (t := 57) (b := true) rfl rfl (he.get 20 57 (by kernel_rfl) rfl) ?_; exact op_callF (vs := #[]) rfl (by simp) (enters_of Tryz.func8 (by kernel_rfl) rfl) (((HW.out W)).mono fun e W' ⟨he', hb⟩ => ⟨_, he', hb, rfl⟩)
  · exact fun ac W hL he => stepOk_want rfl (op_pick (b := true) rfl (he.get 20 57 (by kernel_rfl) rfl) (he.get 21 58 (by kernel_rfl) rfl))
  · exact fun ac W hL he => stepOk_want rfl (op_assign rfl (he.get 22 59 (by kernel_rfl) rfl))
  intro xs2 W2 hL2 hx2
  have v23 : xs2 23 = .bool true := hx2 23 (by decide)
  simp only [putL, Nat.reduceAdd, Act.put, List.setIfInBounds_toArray, List.set_cons_succ, List.set_cons_zero]
  rw [v23]
  clear hx2 v23
  go_wp2_with fail
  exact HΦ.out _ _ ⟨rfl, (HL7.out.step hL2).below⟩
end Go.Proofs.YtloiaaolnfimgaaGreat
