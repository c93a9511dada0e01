/- Walks, route: the document's invoice. -/
import Derived.Test.YtloiaaolnfimgaaGreatRk20
import Derived.Test.YtloiaaolnfimgaaGreatRk15
set_option linter.unusedVariables false
set_option linter.unusedSimpArgs false
namespace Go.Proofs.YtloiaaolnfimgaaGreat
open Go.RowKit Rt
theorem cmpGe {P : Program} {T : TypeId} {x y : Int} {b : Bool} {W : World} (h : decide (y ≤ x) = b) : (binOp .geq T (.int .i64 x) (.int .i64 y)).run P W = .ok (.bool b) W := by subst h; kernel_rfl
theorem cmpLe {P : Program} {T : TypeId} {x y : Int} {b : Bool} {W : World} (h : decide (x ≤ y) = b) : (binOp .leq T (.int .i64 x) (.int .i64 y)).run P W = .ok (.bool b) W := by subst h; kernel_rfl
set_option maxRecDepth 100000 in
theorem refinvoice_any (h : Hop) (hw : h.wf) (w : World) : Calls Tryz.prog 62 #[.agg (hopC h)] w fun e w' => e = .returned (.bool (okInv h)) ∧ Later w w' := by
  refine Calls.post fun Φ HΦ => ?_
  have hbx := boxInv hw w
  have hr := Row.new w 51 (hopC h)
  have hL : Later w (w.alloc (.cells (hopC h) 51)) := below_new w _
  have hc2 := cHop2 hw hr
  have hc3 := cHop3 hw hr
  have h2 := fun W => right5_any h.amt W
  obtain ⟨b1, hb1⟩ : ∃ b, decide (0 < h.amt) = b := ⟨_, rfl⟩
  obtain ⟨b2, hb2⟩ : ∃ b, (!bad maxAmt h.amt) = b := ⟨_, rfl⟩
  obtain ⟨b3, hb3⟩ : ∃ b, decide (1 ≤ h.exp) = b := ⟨_, rfl⟩
  obtain ⟨b4, hb4⟩ : ∃ b, decide (h.exp ≤ 1000) = b := ⟨_, rfl⟩
  have hk : okInv h = (b1 && (b2 && (b3 && b4))) := by
    unfold okInv
    rw [← hb1, ← hb2, ← hb3, ← hb4]
    unfold bad maxAmt
    rw [Bool.eq_iff_iff]
    simp only [Bool.and_eq_true, decide_eq_true_eq, Bool.not_eq_true', Bool.or_eq_false_iff, decide_eq_false_iff_not]
    omega
  simp only [hb2] at h2
  have HK := Lib.hid hk
  have HL := Lib.hid hL
  clear hk hb2
  go_enter Tryz.func62, Tryz.ntmps62
  go_upto_region 1 with (first
    | (guard_target =~ wpList _ _ _ (_ :: _) _ _; refine wpList_box rfl 51 (.tmp 0) rfl (.agg (hopC h)) rfl hbx ?_)
    | fail)
  obtain ⟨g, hg⟩ : ∃ g, g = w.heap.size := ⟨_, rfl⟩
  rw [← hg] at hc2 hc3 ⊢
  by_cases hc1 : b1 = false
  · subst hc1
    refine wp_region_seqL [Pr.eq (.pointer (some ⟨g, 64, none⟩)), Pr.eq (.int .i64 h.amt), Pr.eq (.bool false), Pr.eq (.bool false), Pr.eq (undef), Pr.eq (undef), Pr.eq (undef), Pr.eq (.bool false), Pr.eq (.bool false), Pr.eq (undef), Pr.eq (undef), Pr.eq (undef), Pr.eq (.bool false), Pr.eq (.bool false), Pr.eq (undef), Pr.eq (undef), Pr.eq (undef), Pr.eq (.bool false), Pr.eq (.bool false)] (by kernel_rfl) (by kernel_rfl) (by kernel_rfl) ⟨?_, ?_, ?_, ?_, ?_, ?_, ?_, ?_, ?_, ?_, ?_, ?_, ?_, ?_, ?_, ?_, ?_, ?_, ?_, trivial⟩ ?_
    · exact fun ac W hL he => stepOk_want rfl (op_fieldAddr rfl (he.keep (.tmp 1) (by kernel_rfl)) fInv2 rfl)
    · exact fun ac W hL he => stepOk_want rfl (op_load rfl (he.get 0 3 (by kernel_rfl) rfl) (ldI64 (Later.cell hL hc2)) rfl)
    · exact fun ac W hL he => stepOk_want rfl (op_binOp rfl (he.get 1 4 (by kernel_rfl) rfl) rfl (eqg_any rfl) (cmpG hb1) rfl)
    · exact fun ac W hL he => stepOk_want rfl (op_move rfl (he.get 2 5 (by kernel_rfl) rfl))
    · exact fun ac W hL he => stepOk_no rfl rfl (he.get 3 6 (by kernel_rfl) rfl) (by decide) rfl
    · exact fun ac W hL he => stepOk_no rfl rfl (he.get 3 6 (by kernel_rfl) rfl) (by decide) rfl
    · exact fun ac W hL he => stepOk_no rfl rfl (he.get 3 6 (by kernel_rfl) rfl) (by decide) rfl
    · exact fun ac W hL he => stepOk_want rfl (op_pick (b := false) rfl (he.get 3 6 (by kernel_rfl) rfl) rfl)
    · exact fun ac W hL he => stepOk_want rfl (op_move rfl (he.get 7 10 (by kernel_rfl) rfl))
    · exact fun ac W hL he => stepOk_no rfl rfl (he.get 8 11 (by kernel_rfl) rfl) (by decide) rfl
    · exact fun ac W hL he => stepOk_no rfl rfl (he.get 8 11 (by kernel_rfl) rfl) (by decide) rfl
    · exact fun ac W hL he => stepOk_no rfl rfl (he.get 8 11 (by kernel_rfl) rfl) (by decide) rfl
    · exact fun ac W hL he => stepOk_want rfl (op_pick (b := false) rfl (he.get 8 11 (by kernel_rfl) rfl) rfl)
    · exact fun ac W hL he => stepOk_want rfl (op_move rfl (he.get 12 15 (by kernel_rfl) rfl))
    · exact fun ac W hL he => stepOk_no rfl rfl (he.get 13 16 (by kernel_rfl) rfl) (by decide) rfl
    · exact fun ac W hL he => stepOk_no rfl rfl (he.get 13 16 (by kernel_rfl) rfl) (by decide) rfl
    · exact fun ac W hL he => stepOk_no rfl rfl (he.get 13 16 (by kernel_rfl) rfl) (by decide) rfl
    · exact fun ac W hL he => stepOk_want rfl (op_pick (b := false) rfl (he.get 13 16 (by kernel_rfl) rfl) rfl)
    · exact fun ac W hL he => stepOk_want rfl (op_assign rfl (he.get 17 20 (by kernel_rfl) rfl))
    intro xs W hL2 hx
    have v18 : xs 18 = .bool false := hx 18 (by decide)
    simp only [putL, Nat.reduceAdd, Act.put, List.setIfInBounds_toArray, List.set_cons_succ, List.set_cons_zero]
    rw [v18]
    clear hx v18
    go_wp2_with fail
    exact HΦ.out _ _ ⟨by rw [HK.out]; simp, HL.out.step hL2⟩
  have hc1' : b1 = true := by revert hc1; cases b1 <;> simp
  clear hc1
  subst hc1'
  by_cases hc2 : b2 = false
  · subst hc2
    refine wp_region_seqL [Pr.eq (.pointer (some ⟨g, 64, none⟩)), Pr.eq (.int .i64 h.amt), Pr.eq (.bool true), Pr.eq (.bool true), Pr.eq (.pointer (some ⟨g, 64, none⟩)), Pr.eq (.int .i64 h.amt), Pr.eq (.bool false), Pr.eq (.bool false), Pr.eq (.bool false), Pr.eq (undef), Pr.eq (undef), Pr.eq (undef), Pr.eq (.bool false), Pr.eq (.bool false), Pr.eq (undef), Pr.eq (undef), Pr.eq (undef), Pr.eq (.bool false), Pr.eq (.bool false)] (by kernel_rfl) (by kernel_rfl) (by kernel_rfl) ⟨?_, ?_, ?_, ?_, ?_, ?_, ?_, ?_, ?_, ?_, ?_, ?_, ?_, ?_, ?_, ?_, ?_, ?_, ?_, trivial⟩ ?_
    · exact fun ac W hL he => stepOk_want rfl (op_fieldAddr rfl (he.keep (.tmp 1) (by kernel_rfl)) fInv2 rfl)
    · exact fun ac W hL he => stepOk_want rfl (op_load rfl (he.get 0 3 (by kernel_rfl) rfl) (ldI64 (Later.cell hL hc2)) rfl)
    · exact fun ac W hL he => stepOk_want rfl (op_binOp rfl (he.get 1 4 (by kernel_rfl) rfl) rfl (eqg_any rfl) (cmpG hb1) rfl)
    · exact fun ac W hL he => stepOk_want rfl (op_move rfl (he.get 2 5 (by kernel_rfl) rfl))
    · exact fun ac W hL he => stepOk_yes (j := 3) (t := 6) (b := true) rfl rfl (he.get 3 6 (by kernel_rfl) rfl) (op_fieldAddr rfl (he.keep (.tmp 1) (by kernel_rfl)) fInv2 rfl)
    · exact fun ac W hL he => stepOk_yes (j := 3) (t := 6) (b := true) rfl rfl (he.get 3 6 (by kernel_rfl) rfl) (op_load rfl (he.get 4 7 (by kernel_rfl) rfl) (ldI64 (Later.cell hL hc2)) rfl)
    · intro ac W hL he; refine stepOk_yes (j := 3) (t := 6) (b := true) rfl rfl (he.get 3 6 (by kernel_rfl) rfl) ?_; have e0 : ac.eval (.tmp 8) = .int .i64 h.amt := (he.get 5 8 (by kernel_rfl) rfl); exact op_callF (vs := #[.int .i64 h.amt]) rfl (by simp only [List.map_toArray, List.map_cons, List.map_nil, e0]) (enters_of Tryz.func50 (by kernel_rfl) rfl) (((h2 W)).mono fun e W' ⟨he', hw'⟩ => ⟨_, he', hw' ▸ Later.refl _, rfl⟩)
    · exact fun ac W hL he => stepOk_want rfl (op_pick (b := true) rfl (he.get 3 6 (by kernel_rfl) rfl) (he.get 6 9 (by kernel_rfl) rfl))
    · exact fun ac W hL he => stepOk_want rfl (op_move rfl (he.get 7 10 (by kernel_rfl) rfl))
    · exact fun ac W hL he => stepOk_no rfl rfl (he.get 8 11 (by kernel_rfl) rfl) (by decide) rfl
    · exact fun ac W hL he => stepOk_no rfl rfl (he.get 8 11 (by kernel_rfl) rfl) (by decide) rfl
    · exact fun ac W hL he => stepOk_no rfl rfl (he.get 8 11 (by kernel_rfl) rfl) (by decide) rfl
    · exact fun ac W hL he => stepOk_want rfl (op_pick (b := false) rfl (he.get 8 11 (by kernel_rfl) rfl) rfl)
    · exact fun ac W hL he => stepOk_want rfl (op_move rfl (he.get 12 15 (by kernel_rfl) rfl))
    · exact fun ac W hL he => stepOk_no rfl rfl (he.get 13 16 (by kernel_rfl) rfl) (by decide) rfl
    · exact fun ac W hL he => stepOk_no rfl rfl (he.get 13 16 (by kernel_rfl) rfl) (by decide) rfl
    · exact fun ac W hL he => stepOk_no rfl rfl (he.get 13 16 (by kernel_rfl) rfl) (by decide) rfl
    · exact fun ac W hL he => stepOk_want rfl (op_pick (b := false) rfl (he.get 13 16 (by kernel_rfl) rfl) rfl)
    · exact fun ac W hL he => stepOk_want rfl (op_assign rfl (he.get 17 20 (by kernel_rfl) rfl))
    intro xs W hL2 hx
    have v18 : xs 18 = .bool false := hx 18 (by decide)
    simp only [putL, Nat.reduceAdd, Act.put, List.setIfInBounds_toArray, List.set_cons_succ, List.set_cons_zero]
    rw [v18]
    clear hx v18
    go_wp2_with fail
    exact HΦ.out _ _ ⟨by rw [HK.out]; simp, HL.out.step hL2⟩
  have hc2' : b2 = true := by revert hc2; cases b2 <;> simp
  clear hc2
  subst hc2'
  by_cases hc3 : b3 = false
  · subst hc3
    refine wp_region_seqL [Pr.eq (.pointer (some ⟨g, 64, none⟩)), Pr.eq (.int .i64 h.amt), Pr.eq (.bool true), Pr.eq (.bool true), Pr.eq (.pointer (some ⟨g, 64, none⟩)), Pr.eq (.int .i64 h.amt), Pr.eq (.bool true), Pr.eq (.bool true), Pr.eq (.bool true), Pr.eq (.pointer (some ⟨g, 65, none⟩)), Pr.eq (.int .i64 h.exp), Pr.eq (.bool false), Pr.eq (.bool false), Pr.eq (.bool false), Pr.eq (undef), Pr.eq (undef), Pr.eq (undef), Pr.eq (.bool false), Pr.eq (.bool false)] (by kernel_rfl) (by kernel_rfl) (by kernel_rfl) ⟨?_, ?_, ?_, ?_, ?_, ?_, ?_, ?_, ?_, ?_, ?_, ?_, ?_, ?_, ?_, ?_, ?_, ?_, ?_, trivial⟩ ?_
    · exact fun ac W hL he => stepOk_want rfl (op_fieldAddr rfl (he.keep (.tmp 1) (by kernel_rfl)) fInv2 rfl)
    · exact fun ac W hL he => stepOk_want rfl (op_load rfl (he.get 0 3 (by kernel_rfl) rfl) (ldI64 (Later.cell hL hc2)) rfl)
    · exact fun ac W hL he => stepOk_want rfl (op_binOp rfl (he.get 1 4 (by kernel_rfl) rfl) rfl (eqg_any rfl) (cmpG hb1) rfl)
    · exact fun ac W hL he => stepOk_want rfl (op_move rfl (he.get 2 5 (by kernel_rfl) rfl))
    · exact fun ac W hL he => stepOk_yes (j := 3) (t := 6) (b := true) rfl rfl (he.get 3 6 (by kernel_rfl) rfl) (op_fieldAddr rfl (he.keep (.tmp 1) (by kernel_rfl)) fInv2 rfl)
    · exact fun ac W hL he => stepOk_yes (j := 3) (t := 6) (b := true) rfl rfl (he.get 3 6 (by kernel_rfl) rfl) (op_load rfl (he.get 4 7 (by kernel_rfl) rfl) (ldI64 (Later.cell hL hc2)) rfl)
    · intro ac W hL he; refine stepOk_yes (j := 3) (t := 6) (b := true) rfl rfl (he.get 3 6 (by kernel_rfl) rfl) ?_; have e0 : ac.eval (.tmp 8) = .int .i64 h.amt := (he.get 5 8 (by kernel_rfl) rfl); exact op_callF (vs := #[.int .i64 h.amt]) rfl (by simp only [List.map_toArray, List.map_cons, List.map_nil, e0]) (enters_of Tryz.func50 (by kernel_rfl) rfl) (((h2 W)).mono fun e W' ⟨he', hw'⟩ => ⟨_, he', hw' ▸ Later.refl _, rfl⟩)
    · exact fun ac W hL he => stepOk_want rfl (op_pick (b := true) rfl (he.get 3 6 (by kernel_rfl) rfl) (he.get 6 9 (by kernel_rfl) rfl))
    · exact fun ac W hL he => stepOk_want rfl (op_move rfl (he.get 7 10 (by kernel_rfl) rfl))
    · exact fun ac W hL he => stepOk_yes (j := 8) (t := 11) (b := true) rfl rfl (he.get 8 11 (by kernel_rfl) rfl) (op_fieldAddr rfl (he.keep (.tmp 1) (by kernel_rfl)) fInv3 rfl)
    · exact fun ac W hL he => stepOk_yes (j := 8) (t := 11) (b := true) rfl rfl (he.get 8 11 (by kernel_rfl) rfl) (op_load rfl (he.get 9 12 (by kernel_rfl) rfl) (ldI64 (Later.cell hL hc3)) rfl)
    · exact fun ac W hL he => stepOk_yes (j := 8) (t := 11) (b := true) rfl rfl (he.get 8 11 (by kernel_rfl) rfl) (op_binOp rfl (he.get 10 13 (by kernel_rfl) rfl) rfl (eqg_any rfl) (cmpGe hb3) rfl)
    · exact fun ac W hL he => stepOk_want rfl (op_pick (b := true) rfl (he.get 8 11 (by kernel_rfl) rfl) (he.get 11 14 (by kernel_rfl) rfl))
    · exact fun ac W hL he => stepOk_want rfl (op_move rfl (he.get 12 15 (by kernel_rfl) rfl))
    · exact fun ac W hL he => stepOk_no rfl rfl (he.get 13 16 (by kernel_rfl) rfl) (by decide) rfl
    · exact fun ac W hL he => stepOk_no rfl rfl (he.get 13 16 (by kernel_rfl) rfl) (by decide) rfl
    · exact fun ac W hL he => stepOk_no rfl rfl (he.get 13 16 (by kernel_rfl) rfl) (by decide) rfl
    · exact fun ac W hL he => stepOk_want rfl (op_pick (b := false) rfl (he.get 13 16 (by kernel_rfl) rfl) rfl)
    · exact fun ac W hL he => stepOk_want rfl (op_assign rfl (he.get 17 20 (by kernel_rfl) rfl))
    intro xs W hL2 hx
    have v18 : xs 18 = .bool false := hx 18 (by decide)
    simp only [putL, Nat.reduceAdd, Act.put, List.setIfInBounds_toArray, List.set_cons_succ, List.set_cons_zero]
    rw [v18]
    clear hx v18
    go_wp2_with fail
    exact HΦ.out _ _ ⟨by rw [HK.out]; simp, HL.out.step hL2⟩
  have hc3' : b3 = true := by revert hc3; cases b3 <;> simp
  clear hc3
  subst hc3'
  refine wp_region_seqL [Pr.eq (.pointer (some ⟨g, 64, none⟩)), Pr.eq (.int .i64 h.amt), Pr.eq (.bool true), Pr.eq (.bool true), Pr.eq (.pointer (some ⟨g, 64, none⟩)), Pr.eq (.int .i64 h.amt), Pr.eq (.bool true), Pr.eq (.bool true), Pr.eq (.bool true), Pr.eq (.pointer (some ⟨g, 65, none⟩)), Pr.eq (.int .i64 h.exp), Pr.eq (.bool true), Pr.eq (.bool true), Pr.eq (.bool true), Pr.eq (.pointer (some ⟨g, 65, none⟩)), Pr.eq (.int .i64 h.exp), Pr.eq (.bool b4), Pr.eq (.bool b4), Pr.eq (.bool b4)] (by kernel_rfl) (by kernel_rfl) (by kernel_rfl) ⟨?_, ?_, ?_, ?_, ?_, ?_, ?_, ?_, ?_, ?_, ?_, ?_, ?_, ?_, ?_, ?_, ?_, ?_, ?_, trivial⟩ ?_
  · exact fun ac W hL he => stepOk_want rfl (op_fieldAddr rfl (he.keep (.tmp 1) (by kernel_rfl)) fInv2 rfl)
  · exact fun ac W hL he => stepOk_want rfl (op_load rfl (he.get 0 3 (by kernel_rfl) rfl) (ldI64 (Later.cell hL hc2)) rfl)
  · exact fun ac W hL he => stepOk_want rfl (op_binOp rfl (he.get 1 4 (by kernel_rfl) rfl) rfl (eqg_any rfl) (cmpG hb1) rfl)
  · exact fun ac W hL he => stepOk_want rfl (op_move rfl (he.get 2 5 (by kernel_rfl) rfl))
  · exact fun ac W hL he => stepOk_yes (j := 3) (t := 6) (b := true) rfl rfl (he.get 3 6 (by kernel_rfl) rfl) (op_fieldAddr rfl (he.keep (.tmp 1) (by kernel_rfl)) fInv2 rfl)
  · exact fun ac W hL he => stepOk_yes (j := 3) (t := 6) (b := true) rfl rfl (he.get 3 6 (by kernel_rfl) rfl) (op_load rfl (he.get 4 7 (by kernel_rfl) rfl) (ldI64 (Later.cell hL hc2)) rfl)
  · intro ac W hL he; refine stepOk_yes (j := 3) (t := 6) (b := true) rfl rfl (he.get 3 6 (by kernel_rfl) rfl) ?_; have e0 : ac.eval (.tmp 8) = .int .i64 h.amt := (he.get 5 8 (by kernel_rfl) rfl); exact op_callF (vs := #[.int .i64 h.amt]) rfl (by simp only [List.map_toArray, List.map_cons, List.map_nil, e0]) (enters_of Tryz.func50 (by kernel_rfl) rfl) (((h2 W)).mono fun e W' ⟨he', hw'⟩ => ⟨_, he', hw' ▸ Later.refl _, rfl⟩)
  · exact fun ac W hL he => stepOk_want rfl (op_pick (b := true) rfl (he.get 3 6 (by kernel_rfl) rfl) (he.get 6 9 (by kernel_rfl) rfl))
  · exact fun ac W hL he => stepOk_want rfl (op_move rfl (he.get 7 10 (by kernel_rfl) rfl))
  · exact fun ac W hL he => stepOk_yes (j := 8) (t := 11) (b := true) rfl rfl (he.get 8 11 (by kernel_rfl) rfl) (op_fieldAddr rfl (he.keep (.tmp 1) (by kernel_rfl)) fInv3 rfl)
  · exact fun ac W hL he => stepOk_yes (j := 8) (t := 11) (b := true) rfl rfl (he.get 8 11 (by kernel_rfl) rfl) (op_load rfl (he.get 9 12 (by kernel_rfl) rfl) (ldI64 (Later.cell hL hc3)) rfl)
  · exact fun ac W hL he => stepOk_yes (j := 8) (t := 11) (b := true) rfl rfl (he.get 8 11 (by kernel_rfl) rfl) (op_binOp rfl (he.get 10 13 (by kernel_rfl) rfl) rfl (eqg_any rfl) (cmpGe hb3) rfl)
  · exact fun ac W hL he => stepOk_want rfl (op_pick (b := true) rfl (he.get 8 11 (by kernel_rfl) rfl) (he.get 11 14 (by kernel_rfl) rfl))
  · exact fun ac W hL he => stepOk_want rfl (op_move rfl (he.get 12 15 (by kernel_rfl) rfl))
  · exact fun ac W hL he => stepOk_yes (j := 13) (t := 16) (b := true) rfl rfl (he.get 13 16 (by kernel_rfl) rfl) (op_fieldAddr rfl (he.keep (.tmp 1) (by kernel_rfl)) fInv3 rfl)
  · exact fun ac W hL he => stepOk_yes (j := 13) (t := 16) (b := true) rfl rfl (he.get 13 16 (by kernel_rfl) rfl) (op_load rfl (he.get 14 17 (by kernel_rfl) rfl) (ldI64 (Later.cell hL hc3)) rfl)
  · exact fun ac W hL he => stepOk_yes (j := 13) (t := 16) (b := true) rfl rfl (he.get 13 16 (by kernel_rfl) rfl) (op_binOp rfl (he.get 15 18 (by kernel_rfl) rfl) rfl (eqg_any rfl) (cmpLe hb4) rfl)
  · exact fun ac W hL he => stepOk_want rfl (op_pick (b := true) rfl (he.get 13 16 (by kernel_rfl) rfl) (he.get 16 19 (by kernel_rfl) rfl))
  · exact fun ac W hL he => stepOk_want rfl (op_assign rfl (he.get 17 20 (by kernel_rfl) rfl))
  intro xs W hL2 hx
  have v18 : xs 18 = .bool b4 := hx 18 (by decide)
  simp only [putL, Nat.reduceAdd, Act.put, List.setIfInBounds_toArray, List.set_cons_succ, List.set_cons_zero]
  rw [v18]
  clear hx v18
  go_wp2_with fail
  exact HΦ.out _ _ ⟨by rw [HK.out]; simp, HL.out.step hL2⟩
end Go.Proofs.YtloiaaolnfimgaaGreat
