/- Route: the text of an invoice, plain; may an invoice be. -/
import Derived.Test.YtloiaaolnfimgaaGreatRk11
import Derived.Test.YtloiaaolnfimgaaGreatRqe
set_option linter.unusedVariables false
set_option linter.unusedSimpArgs false
namespace Go.Proofs.YtloiaaolnfimgaaGreat
open Go.RowKit Rt
namespace Rt
def okInv (h : Hop) : Bool := (decide (1 ≤ h.amt) && decide (h.amt ≤ 1125899906842624)) && (decide (1 ≤ h.exp) && decide (h.exp ≤ 1000))
def rawInv (h : Hop) : List UInt8 := h.key ++ h.next ++ (Wr.nb h.amt ++ Wr.nb h.exp)
def sealB (l : List UInt8) : List UInt8 := l ++ low4 (Crc.sum l)
def text (h : Hop) : List UInt8 × Int := if okInv h then (markL ++ textOf (sealB (rawInv h)), 0) else ([], 2)
end Rt
set_option maxRecDepth 100000 in
theorem rinvoice_any (h : Hop) (hw : h.wf) (w : World) : Calls Tryz.prog 53 #[.agg (hopC h)] w fun e w' => e = .returned (.bool (okInv h)) ∧ Later w w' := by
  by_cases hz : h.amt < 1
  · refine (rinv_any h hw hz w).mono ?_
    rintro e w' ⟨rfl, hL⟩
    refine ⟨?_, hL⟩
    unfold okInv
    rw [decide_eq_false (show ¬ (1 : Int) ≤ h.amt by omega)]
    rfl
  refine Calls.post fun Φ HΦ => ?_
  have hbx := boxInv hw w
  have hr := Row.new w 51 (hopC h)
  have hL : Later w (w.alloc (.cells (hopC h) 51)) := below_new w _
  have hc2 := cHop2 hw hr
  have hc3 := cHop3 hw hr
  have h1 := fun W => rin_i64 h.amt 1 1125899906842624 W
  have h2 := fun W => rin_i64 h.exp 1 1000 W
  obtain ⟨b1, hb1⟩ : ∃ b, (decide (1 ≤ h.amt) && decide (h.amt ≤ 1125899906842624)) = b := ⟨_, rfl⟩
  obtain ⟨b2, hb2⟩ : ∃ b, (decide (1 ≤ h.exp) && decide (h.exp ≤ 1000)) = b := ⟨_, rfl⟩
  simp only [hb1] at h1
  simp only [hb2] at h2
  have hk : okInv h = (b1 && b2) := by unfold okInv; rw [hb1, hb2]
  have HK := Lib.hid hk
  have HL := Lib.hid hL
  clear hb1 hb2 hk
  go_enter Tryz.func53, Tryz.ntmps53
  go_upto_region 1 with (first
    | (guard_target =~ wpList _ _ _ (_ :: _) _ _; refine wpList_box rfl 51 (.tmp 0) rfl (.agg (hopC h)) rfl hbx ?_)
    | fail)
  obtain ⟨g, hg⟩ : ∃ g, g = w.heap.size := ⟨_, rfl⟩
  rw [← hg] at hc2 hc3 ⊢
  cases b1 with
  | false =>
    refine wp_region_seqL [Pr.eq (.pointer (some ⟨g, 64, none⟩)), Pr.eq (.int .i64 h.amt), Pr.eq (.bool false), Pr.eq (.bool false), Pr.eq (undef), Pr.eq (undef), Pr.eq (undef), Pr.eq (.bool false), Pr.eq (.bool false)] (by kernel_rfl) (by kernel_rfl) (by kernel_rfl) ⟨?_, ?_, ?_, ?_, ?_, ?_, ?_, ?_, ?_, trivial⟩ ?_
    · exact fun ac W hL he => stepOk_want rfl (op_fieldAddr rfl (he.keep (.tmp 1) (by kernel_rfl)) fInv2 rfl)
    · exact fun ac W hL he => stepOk_want rfl (op_load rfl (he.get 0 3 (by kernel_rfl) rfl) (ldI64 (Later.cell hL hc2)) rfl)
    · intro ac W hL he; refine stepOk_want rfl ?_; have e0 : ac.eval (.tmp 4) = .int .i64 h.amt := (he.get 1 4 (by kernel_rfl) rfl); exact op_callF (vs := #[.int .i64 h.amt, .int .i64 1, .int .i64 1125899906842624]) rfl (by simp only [List.map_toArray, List.map_cons, List.map_nil, e0, (show ac.eval (.const (.int .i64 1)) = .int .i64 1 from rfl), (show ac.eval (.const (.int .i64 1125899906842624)) = .int .i64 1125899906842624 from rfl)]) (enters_of Tryz.func46 (by kernel_rfl) rfl) (((h1 W)).mono fun e W' ⟨he', hw'⟩ => ⟨_, he', hw' ▸ Later.refl _, rfl⟩)
    · exact fun ac W hL he => stepOk_want rfl (op_move rfl (he.get 2 5 (by kernel_rfl) rfl))
    · exact fun ac W hL he => stepOk_no rfl rfl (he.get 3 6 (by kernel_rfl) rfl) (by decide) rfl
    · exact fun ac W hL he => stepOk_no rfl rfl (he.get 3 6 (by kernel_rfl) rfl) (by decide) rfl
    · exact fun ac W hL he => stepOk_no rfl rfl (he.get 3 6 (by kernel_rfl) rfl) (by decide) rfl
    · exact fun ac W hL he => stepOk_want rfl (op_pick (b := false) rfl (he.get 3 6 (by kernel_rfl) rfl) rfl)
    · exact fun ac W hL he => stepOk_want rfl (op_assign rfl (he.get 7 10 (by kernel_rfl) rfl))
    intro xs W hL2 hx
    have v8 : xs 8 = .bool false := hx 8 (by decide)
    simp only [putL, Nat.reduceAdd, Act.put, List.setIfInBounds_toArray, List.set_cons_succ, List.set_cons_zero]
    rw [v8]
    clear hx v8
    go_wp2_with fail
    exact HΦ.out _ _ ⟨by rw [HK.out]; rfl, HL.out.step hL2⟩
  | true =>
    refine wp_region_seqL [Pr.eq (.pointer (some ⟨g, 64, none⟩)), Pr.eq (.int .i64 h.amt), Pr.eq (.bool true), Pr.eq (.bool true), Pr.eq (.pointer (some ⟨g, 65, none⟩)), Pr.eq (.int .i64 h.exp), Pr.eq (.bool b2), Pr.eq (.bool b2), Pr.eq (.bool b2)] (by kernel_rfl) (by kernel_rfl) (by kernel_rfl) ⟨?_, ?_, ?_, ?_, ?_, ?_, ?_, ?_, ?_, trivial⟩ ?_
    · exact fun ac W hL he => stepOk_want rfl (op_fieldAddr rfl (he.keep (.tmp 1) (by kernel_rfl)) fInv2 rfl)
    · exact fun ac W hL he => stepOk_want rfl (op_load rfl (he.get 0 3 (by kernel_rfl) rfl) (ldI64 (Later.cell hL hc2)) rfl)
    · intro ac W hL he; refine stepOk_want rfl ?_; have e0 : ac.eval (.tmp 4) = .int .i64 h.amt := (he.get 1 4 (by kernel_rfl) rfl); exact op_callF (vs := #[.int .i64 h.amt, .int .i64 1, .int .i64 1125899906842624]) rfl (by simp only [List.map_toArray, List.map_cons, List.map_nil, e0, (show ac.eval (.const (.int .i64 1)) = .int .i64 1 from rfl), (show ac.eval (.const (.int .i64 1125899906842624)) = .int .i64 1125899906842624 from rfl)]) (enters_of Tryz.func46 (by kernel_rfl) rfl) (((h1 W)).mono fun e W' ⟨he', hw'⟩ => ⟨_, he', hw' ▸ Later.refl _, rfl⟩)
    · exact fun ac W hL he => stepOk_want rfl (op_move rfl (he.get 2 5 (by kernel_rfl) rfl))
    · exact fun ac W hL he => stepOk_yes (j := 3) (t := 6) (b := true) rfl rfl (he.get 3 6 (by kernel_rfl) rfl) (op_fieldAddr rfl (he.keep (.tmp 1) (by kernel_rfl)) fInv3 rfl)
    · exact fun ac W hL he => stepOk_yes (j := 3) (t := 6) (b := true) rfl rfl (he.get 3 6 (by kernel_rfl) rfl) (op_load rfl (he.get 4 7 (by kernel_rfl) rfl) (ldI64 (Later.cell hL hc3)) rfl)
    · intro ac W hL he; refine stepOk_yes (j := 3) (t := 6) (b := true) rfl rfl (he.get 3 6 (by kernel_rfl) rfl) ?_; have e0 : ac.eval (.tmp 8) = .int .i64 h.exp := (he.get 5 8 (by kernel_rfl) rfl); exact op_callF (vs := #[.int .i64 h.exp, .int .i64 1, .int .i64 1000]) rfl (by simp only [List.map_toArray, List.map_cons, List.map_nil, e0, (show ac.eval (.const (.int .i64 1)) = .int .i64 1 from rfl), (show ac.eval (.const (.int .i64 1000)) = .int .i64 1000 from rfl)]) (enters_of Tryz.func46 (by kernel_rfl) rfl) (((h2 W)).mono fun e W' ⟨he', hw'⟩ => ⟨_, he', hw' ▸ Later.refl _, rfl⟩)
    · exact fun ac W hL he => stepOk_want rfl (op_pick (b := true) rfl (he.get 3 6 (by kernel_rfl) rfl) (he.get 6 9 (by kernel_rfl) rfl))
    · exact fun ac W hL he => stepOk_want rfl (op_assign rfl (he.get 7 10 (by kernel_rfl) rfl))
    intro xs W hL2 hx
    have v8 : xs 8 = .bool b2 := hx 8 (by decide)
    simp only [putL, Nat.reduceAdd, Act.put, List.setIfInBounds_toArray, List.set_cons_succ, List.set_cons_zero]
    rw [v8]
    clear hx v8
    go_wp2_with fail
    exact HΦ.out _ _ ⟨by rw [HK.out, Bool.true_and], HL.out.step hL2⟩
end Go.Proofs.YtloiaaolnfimgaaGreat
