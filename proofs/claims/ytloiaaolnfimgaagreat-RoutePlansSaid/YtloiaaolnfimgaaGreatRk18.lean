/- Walks, route: the law RoutePlans. -/
import Derived.Test.YtloiaaolnfimgaaGreatRk17
set_option linter.unusedVariables false
set_option linter.unusedSimpArgs false
namespace Go.Proofs.YtloiaaolnfimgaaGreat
open Go.RowKit Rt
section
variable {P : Program} {ops : Array Oper} {rest : List Oper} {o : Oper} {a : Act} {w : World} {Q : Exit → Act → World → Prop}
theorem wpList_sliceH (hgd : o.guard = none) (T : TypeId) (x h : Operand) (ho : o.op = .slice T x none (some h) none) (vx vh : Value) (hx : a.eval x = vx) (hh : a.eval h = vh) {v : Value} {w' : World} (hr : (Instr.sliceAt T vx none (some vh) none).run P w = .ok v w')
    (hk : wpList P ops Q rest (a.put o.dst v) w') : wpList P ops Q (o :: rest) a w :=
  wpList_plain hgd fun _ hK => by
    unfold Oper.wp execOp
    simp only [ho, Sem.run_bind, Sem.run_pure, Result.andThen_ok, Option.map_none, Option.map_some, hx, hh, hr]
    exact hK _ _ hk
end
set_option maxRecDepth 100000 in
theorem run_slice_e {b o n ca k : Nat} (h2 : k ≤ ca) (w : World) : (Instr.sliceAt 40 (.slice (some ⟨b, o, none⟩) n ca) none (some (.int .i64 (k : Int))) none).run Tryz.prog w = .ok (.slice (some ⟨b, o, none⟩) k ca) w := by
  obtain ⟨i, hi0, hq⟩ := Option.map_eq_some_iff.1 infoEdgeG
  injection hq with _ hq
  injection hq with hs _
  have he : Tryz.prog.elem 40 = 44 := by simp [Program.elem, Tryz.underlying40]
  have ht' : Tryz.prog.underlying 40 = some (.slice (Tryz.prog.elem 40)) := by rw [he]; exact Tryz.underlying40
  rw [run_sliceAt_slice w _ _ _ _ _ ht', run_slice_h w _ _ n ca ht' .i64 (k : Int) (by omega) (by omega), he]
  have hz : ∀ x : Addr, x.add 0 = x := fun x => by simp [Addr.add]
  simp [sizeOf, typeInfo, hi0, hs, sliced, hz]
theorem run_slice_e2 {b o n ca k : Nat} (h2 : k ≤ ca) (w : World) : (Instr.slice 40 (.slice (some ⟨b, o, none⟩) n ca) none (some (.int .i64 (k : Int))) none).run Tryz.prog w = .ok (.slice (some ⟨b, o, none⟩) k ca) w := by
  have he : Tryz.prog.elem 40 = 44 := by simp [Program.elem, Tryz.underlying40]
  have ht' : Tryz.prog.underlying 40 = some (.slice (Tryz.prog.elem 40)) := by rw [he]; exact Tryz.underlying40
  rw [← run_sliceAt_slice w _ _ _ _ _ ht']
  exact run_slice_e h2 w
theorem neqSame {P : Program} {T : TypeId} {x : Int} {W : World} : (binOp .neq T (.int .i64 x) (.int .i64 x)).run P W = .ok (.bool false) W := by
  go_simp
theorem plan_wf (a x : Int) (l : List Rt.Edge) (hl : ∀ e ∈ l, e.wf) : (plan a x l).1.wf ∧ ∀ h ∈ (plan a x l).2.1, h.wf := by
  unfold plan
  by_cases h1 : okPlan a x l = true
  · rw [if_pos h1]
    by_cases h2 : (routeS a (feesOf l.tail)).2 = 0
    · rw [if_pos h2]
      by_cases h3 : expAt x l 0 ≤ 2147483647
      · rw [if_pos h3]
        refine ⟨firstAt_wf hl ?_, fun h hh => ?_⟩
        · unfold okPlan at h1
          simp only [Bool.and_eq_true, decide_eq_true_eq] at h1
          omega
        · obtain ⟨i, hi, rfl⟩ := List.mem_map.1 hh
          exact stepAt_wf hl (List.mem_range.1 hi)
      · rw [if_neg h3]; exact ⟨noHop_wf, fun h hh => by cases hh⟩
    · rw [if_neg h2]; exact ⟨noHop_wf, fun h hh => by cases hh⟩
  · rw [if_neg h1]; exact ⟨noHop_wf, fun h hh => by cases hh⟩
theorem plan_len (a x : Int) (l : List Rt.Edge) : (plan a x l).2.1.length ≤ l.length := by
  unfold plan
  by_cases h1 : okPlan a x l = true
  · rw [if_pos h1]
    by_cases h2 : (routeS a (feesOf l.tail)).2 = 0
    · rw [if_pos h2]
      by_cases h3 : expAt x l 0 ≤ 2147483647
      · rw [if_pos h3]; simp
      · rw [if_neg h3]; exact Nat.zero_le _
    · rw [if_neg h2]; exact Nat.zero_le _
  · rw [if_neg h1]; exact Nat.zero_le _
set_option maxRecDepth 100000 in
set_option maxHeartbeats 4000000 in
theorem routePlans_walk (a : Int) (wa : (Lit.int .i64 a).wf = true) (x : Int) (wx : (Lit.int .i64 x).wf = true) (A : Option Addr) (n c : Nat) (l : List Rt.Edge) (w : World) (hi : InEdges w A n c l) :
    Calls Tryz.prog 5 #[.int .i64 a, .int .i64 x, .slice A n c] w fun e w' => e = .returned (.bool true) ∧ Below w.heap.size w w' := by
  refine Calls.post fun Φ HΦ => ?_
  have hwk := fun W => works_yes W
  obtain ⟨hn, hnc, hcm, hl, hA⟩ := hi
  by_cases hbig : 10 < n
  · have hd : decide ((n : Int) > 10) = true := decide_eq_true (by omega)
    have hd2 : decide (10 < n) = true := decide_eq_true hbig
    go_enter Tryz.func5, Tryz.ntmps5
    go_wp2_with (first
      | (go_at_call 8; refine (hwk _).mono ?_; rintro e w1 ⟨rfl, h1⟩)
      | fail)
    exact HΦ.out _ _ ⟨rfl, h1⟩
  have hd : decide ((n : Int) > 10) = false := decide_eq_false (by omega)
  have hd2 : decide (10 < n) = false := decide_eq_false hbig
  have HL := Lib.hid hl
  have HN := Lib.hid hn
  have own0 : OwnG 44 67 (w.alloc (.cells #[] 44)) w.heap.size (.slice (some ⟨w.heap.size, 0, none⟩) 0 0) [] := OwnG.row (Row.new w 44 #[]) (by simp) rfl (Nat.le_refl _) (Nat.zero_le _)
  have L1 : Later w (w.alloc (.cells #[] 44)) := below_new w _
  have hA1 := hA.later L1
  have hln : (l.map edgeL).length = n := by rw [List.length_map, HN.out]
  have hle : ([] : List (List Value)).length + n ≤ 1000000000 := by simp; omega
  have hle2 : ([] ++ l.map edgeL).length + 1 ≤ 1000000000 := by rw [List.nil_append, hln]; omega
  have hsz1 := Later.size L1
  clear hn hl
  go_enter Tryz.func5, Tryz.ntmps5
  go_upto_region 4 with (first
    | (guard_target =~ wpList _ _ _ (_ :: _) _ _; refine wpList_buildSl rfl 40 0 _ rfl #[] rfl (buildE0 _) ?_)
    | (guard_target =~ wpList _ _ _ (_ :: _) _ _; refine wpList_append_ga Tryz.underlying40 infoEdgeG (edgeC_size noEdge_wf) (by decide) (by decide) rfl (.tmp 20) (.tmp 21) rfl w.heap.size _ _ rfl own0 A n c (l.map edgeL) (fun u hu => by obtain ⟨e, he, rfl⟩ := List.mem_map.1 hu; exact edgeL_ok (HL.out _ he)) rfl hln hA1 hle hsz1 fun v2 w2 own2 g2 _ => ?_; have L2 : Later w w2 := Below.grown L1 g2 (Later.size L1) (fun j e => (own0.at_ j e).1); have L3 : Later w2 (w2.alloc (.cells (edgeC edge77) 44)) := below_new w2 _; have own3 := own2.later L3; have L23 := L2.step L3; have hrec3 : Recs 67 (w2.alloc (.cells (edgeC edge77) 44)) (some ⟨w2.heap.size, 0, none⟩) [edgeL edge77] := Recs.row (Row.new w2 44 _) (fun l hl => by rw [List.mem_singleton.1 hl]; exact edgeL_len edge77_wf) (fun j v hv => by simpa [edgeL] using hv); have hsz3 := Later.size L23)
    | (guard_target =~ wpList _ _ _ (_ :: _) _ _; refine wpList_build rfl 44 _ rfl #[(3, .int .i64 77)] (by simp only [List.map_toArray, List.map_cons, List.map_nil]; rfl) (build77 _) ?_; simp only [Act.put, List.setIfInBounds_toArray, List.set_cons_zero, List.set_cons_succ])
    | (guard_target =~ wpList _ _ _ (_ :: _) _ _; refine wpList_buildSl rfl 40 1 #[(0, .tmp 23)] rfl #[(0, .agg (edgeC edge77))] (by simp only [List.map_toArray, List.map_cons, List.map_nil]; rfl) (buildE1 _) ?_)
    | (guard_target =~ wpList _ _ _ (_ :: _) _ _; refine wpList_append_ga Tryz.underlying40 infoEdgeG (edgeC_size noEdge_wf) (by decide) (by decide) rfl (.tmp 22) (.tmp 24) rfl w.heap.size _ _ rfl own3 (some ⟨w2.heap.size, 0, none⟩) 1 1 [edgeL edge77] (fun l hl => List.mem_singleton.1 hl ▸ edgeL_ok edge77_wf) rfl rfl hrec3 hle2 hsz3 fun v4 w4 own4 g4 _ => ?_; have L4 : Later w w4 := Below.grown L23 g4 (Later.size L23) (fun j e => (own3.at_ j e).1); obtain ⟨M, cM, rfl, hcM, -, hrM⟩ := own4.slice; have hl4 : (([] ++ l.map edgeL) ++ [edgeL edge77]).length = n + 1 := (by simp [HN.out]); rw [hl4] at hcM ⊢; obtain ⟨bM, oM, rfl, hcell⟩ := hrM (by simp))
    | (guard_target =~ wpList _ _ _ (_ :: _) _ _; refine wpList_sliceH rfl 40 (.tmp 25) (.tmp 27) rfl (.slice (some ⟨bM, oM, none⟩) (n + 1) cM) (.int .i64 (n : Int)) rfl rfl (run_slice_e (by omega) _) ?_)
    | fail)
  obtain ⟨p0, hp0⟩ : ∃ p, plan a x l = p := ⟨_, rfl⟩
  obtain ⟨F, SS, er⟩ := p0
  have hpw := plan_wf a x l HL.out
  have hpk := plan_len a x l
  have hrange : ∀ (i : Nat) (hi : i < l.length), w4.rangeAt bM (oM + i * 67) (edgeL l[i]) := fun i hi => by
    have h := hcell i (by simp; omega)
    have e : (([] ++ l.map edgeL) ++ [edgeL edge77])[i]'(by simp; omega) = edgeL l[i] := by
      simp only [List.nil_append]
      rw [List.getElem_append_left (by simpa using hi), List.getElem_map]
    rw [e] at h
    exact h
  have hlast : w4.rangeAt bM (oM + n * 67) (edgeL edge77) := by
    have h := hcell n (by rw [hl4]; omega)
    have e : (([] ++ l.map edgeL) ++ [edgeL edge77])[n]'(by rw [hl4]; omega) = edgeL edge77 := by
      simp only [List.nil_append]
      rw [List.getElem_append_right (by rw [hln]; exact Nat.le_refl _)]
      simp [HN.out]
    rw [e] at h
    exact h
  have hM4 : Recs 67 w4 (some ⟨bM, oM, none⟩) (l.map edgeL) := fun _ => ⟨bM, oM, rfl, fun i hi => by rw [List.getElem_map]; exact hrange i (by simpa using hi)⟩
  have hPl := callsIn_wide.1 (plan_full a x (some ⟨bM, oM, none⟩) n cM l w4 HL.out HN.out (by omega) (by omega) hM4)
  have hRf := fun W (h : Later w W) => refPlan_any a x A n c l W HL.out HN.out (by omega) (hA.later h)
  rw [hp0] at hPl hpw hpk
  simp only [hp0] at hRf
  obtain ⟨hwF, hwS⟩ := hpw
  simp only at hPl hRf hwF hwS
  obtain ⟨k, hk⟩ : ∃ k, SS.length = k := ⟨_, rfl⟩
  simp only [hk] at hPl hRf
  have hk10 : k ≤ 10 := by rw [HN.out] at hpk; simp only at hpk; omega
  clear hpk
  have HK := Lib.hid hk
  have L4' : Later w w4 := L4
  clear own0 own2 own3 own4 hrM hcell hrec3 hA1 L1 L2 L3 L23 g2 g4 hk hp0 hle hle2 hsz1 hsz3 hl4 L4
  go_upto_region 5 with (first
    | (go_at_call 14; refine hPl.mono ?_; clear hPl; rintro e w5 ⟨⟨v, rfl, B5, c5, rfl, hr5⟩, L5⟩; obtain ⟨w6, hs6, k6, L6⟩ := newHop w5 hwF)
    | (with_reducible refine wpList_alloc rfl 27 rfl (allocHop _) ?_)
    | (guard_target =~ wpList _ _ _ (_ :: _) _ _; refine wpList_store rfl 27 (.tmp 8) (.tmp 34) rfl (.pointer (some ⟨w5.heap.size, 0, none⟩)) (.agg (hopC F)) rfl rfl hs6 ?_)
    | fail)
  obtain ⟨g8, hg8⟩ : ∃ g, g = w5.heap.size := ⟨_, rfl⟩
  rw [← hg8] at k6 ⊢
  have L46 : Later w4 w6 := (show Later w4 w5 from L5).step L6
  have L06 : Later w w6 := L4'.step L46
  have hr6 := hr5.later L6
  have hR6 := hRf w6 L06
  clear hs6 hg8 hr5 L5 L6 hRf
  go_upto_region 6 with (first
    | (go_at_call 15; refine hR6.mono ?_; clear hR6; rintro e w7 ⟨⟨v, rfl, B7, c7, rfl, hr7⟩, L7⟩; obtain ⟨w8, hs8, k8, L8⟩ := newHop w7 hwF)
    | (with_reducible refine wpList_alloc rfl 27 rfl (allocHop _) ?_)
    | (guard_target =~ wpList _ _ _ (_ :: _) _ _; refine wpList_store rfl 27 (.tmp 11) (.tmp 42) rfl (.pointer (some ⟨w7.heap.size, 0, none⟩)) (.agg (hopC F)) rfl rfl hs8 ?_)
    | fail)
  obtain ⟨g11, hg11⟩ : ∃ g, g = w7.heap.size := ⟨_, rfl⟩
  rw [← hg11] at k8 ⊢
  have L68 : Later w6 w8 := (show Later w6 w7 from L7).step L8
  have hr8 := hr7.later L8
  have hr68 := hr6.later L68
  have k68 := k6.later L68
  have L48 : Later w4 w8 := L46.step L68
  have L08 : Later w w8 := L06.step L68
  clear hs8 hg11 hr7 L7 L8 hr6 k6 L06 L46 L68
  refine wp_region_seqL [Pr.eq (.agg (hopC F)), Pr.eq (.agg (hopC F)), Pr.eq (.bool false), Pr.eq (.bool false), Pr.eq (.slice B5 k c5), Pr.eq (.int .i64 (k : Int)), Pr.eq (.slice B7 k c7), Pr.eq (.int .i64 (k : Int)), Pr.eq (.bool false), Pr.eq (.bool false), Pr.eq (.bool false), Pr.eq (.int .i64 er), Pr.eq (.int .i64 er), Pr.eq (.int .i64 er), Pr.eq (.bool false), Pr.eq (.bool false)] (by kernel_rfl) (by kernel_rfl) (by kernel_rfl) ⟨?_, ?_, ?_, ?_, ?_, ?_, ?_, ?_, ?_, ?_, ?_, ?_, ?_, ?_, ?_, ?_, trivial⟩ ?_
  · exact fun ac W hL he => stepOk_want rfl (op_load rfl (he.keep (.tmp 8) (by kernel_rfl)) (loadHopR hwF (k68.later hL)) rfl)
  · exact fun ac W hL he => stepOk_want rfl (op_load rfl (he.keep (.tmp 11) (by kernel_rfl)) (loadHopR hwF (k8.later hL)) rfl)
  · exact fun ac W hL he => stepOk_want rfl (op_binOp rfl (he.get 0 45 (by kernel_rfl) rfl) (he.get 1 46 (by kernel_rfl) rfl) (eqgHop _ _ _ _ _ _) (neqHopMe hwF _) rfl)
  · exact fun ac W hL he => stepOk_want rfl (op_move rfl (he.get 2 47 (by kernel_rfl) rfl))
  · exact fun ac W hL he => stepOk_yes (j := 3) (t := 48) (b := false) rfl rfl (he.get 3 48 (by kernel_rfl) rfl) (op_move rfl (he.keep (.tmp 9) (by kernel_rfl)))
  · exact fun ac W hL he => stepOk_yes (j := 3) (t := 48) (b := false) rfl rfl (he.get 3 48 (by kernel_rfl) rfl) (op_len Tryz.underlying22 rfl (he.get 4 49 (by kernel_rfl) rfl) rfl)
  · exact fun ac W hL he => stepOk_yes (j := 3) (t := 48) (b := false) rfl rfl (he.get 3 48 (by kernel_rfl) rfl) (op_move rfl (he.keep (.tmp 12) (by kernel_rfl)))
  · exact fun ac W hL he => stepOk_yes (j := 3) (t := 48) (b := false) rfl rfl (he.get 3 48 (by kernel_rfl) rfl) (op_len Tryz.underlying22 rfl (he.get 6 51 (by kernel_rfl) rfl) rfl)
  · exact fun ac W hL he => stepOk_yes (j := 3) (t := 48) (b := false) rfl rfl (he.get 3 48 (by kernel_rfl) rfl) (op_binOp rfl (he.get 5 50 (by kernel_rfl) rfl) (he.get 7 52 (by kernel_rfl) rfl) (by kernel_rfl) neqSame rfl)
  · exact fun ac W hL he => stepOk_want rfl (op_pick (b := false) rfl (he.get 3 48 (by kernel_rfl) rfl) (he.get 8 53 (by kernel_rfl) rfl))
  · exact fun ac W hL he => stepOk_want rfl (op_move rfl (he.get 9 54 (by kernel_rfl) rfl))
  · exact fun ac W hL he => stepOk_yes (j := 10) (t := 55) (b := false) rfl rfl (he.get 10 55 (by kernel_rfl) rfl) (op_move rfl (he.keep (.tmp 10) (by kernel_rfl)))
  · intro ac W hL he; refine stepOk_yes (j := 10) (t := 55) (b := false) rfl rfl (he.get 10 55 (by kernel_rfl) rfl) ?_; have e0 : ac.eval (.tmp 56) = .int .i64 er := (he.get 11 56 (by kernel_rfl) rfl); exact op_callF (vs := #[.int .i64 er]) rfl (by simp only [List.map_toArray, List.map_cons, List.map_nil, e0]) (enters_of Tryz.func11 (by kernel_rfl) rfl) (((rnum_any er W)).mono fun e W' ⟨he', hw'⟩ => ⟨_, he', hw' ▸ Later.refl _, rfl⟩)
  · exact fun ac W hL he => stepOk_yes (j := 10) (t := 55) (b := false) rfl rfl (he.get 10 55 (by kernel_rfl) rfl) (op_move rfl (he.keep (.tmp 13) (by kernel_rfl)))
  · exact fun ac W hL he => stepOk_yes (j := 10) (t := 55) (b := false) rfl rfl (he.get 10 55 (by kernel_rfl) rfl) (op_binOp rfl (he.get 12 57 (by kernel_rfl) rfl) (he.get 13 58 (by kernel_rfl) rfl) (by kernel_rfl) neqSame rfl)
  · exact fun ac W hL he => stepOk_want rfl (op_pick (b := false) rfl (he.get 10 55 (by kernel_rfl) rfl) (he.get 14 59 (by kernel_rfl) rfl))
  intro xs W hL hx
  have v15 : xs 15 = .bool false := hx 15 (by decide)
  simp only [putL, Nat.reduceAdd, Act.put, List.setIfInBounds_toArray, List.set_cons_succ, List.set_cons_zero]
  rw [v15]
  have s5 := hr68.later hL
  have s7 := hr8.later hL
  have L4W : Later w4 W := L48.step hL
  have L0W : Later w W := L08.step hL
  have HW := Lib.hid hwk
  clear hx v15 hr68 hr8 k8 k68 L48 L08 hL hwk
  go_wp2_with fail
  go_loopw [14] (fun t wr => ∃ p : Nat, p ≤ k ∧ t = .int .i64 (p : Int) ∧ Later W wr) (fun t _ => k - (intOf t).toNat)
  case atStart => exact ⟨0, by omega, rfl, Later.refl _⟩
  case round =>
    obtain ⟨p, hp, rfl, hLr⟩ := hrel
    by_cases hlt : p < k
    · have hd : decide ((p : Int) < (k : Int)) = true := decide_eq_true (by omega)
      have hd' : decide (p < k) = true := decide_eq_true hlt
      have hps : p < SS.length := by rw [HK.out]; exact hlt
      obtain ⟨b5, o5, rfl, r5⟩ := (s5.later hLr).at_ (k := p) (by simpa using hps)
      obtain ⟨b7, o7, rfl, r7⟩ := (s7.later hLr).at_ (k := p) (by simpa using hps)
      rw [List.getElem_map] at r5 r7
      have hwp := hwS _ (List.getElem_mem hps)
      go_upto_region 11 with fail
      refine wp_region_list [Pr.eq (.slice (some ⟨b5, o5, none⟩) k c5), Pr.eq (.int .i64 (p : Int)), Pr.eq (.pointer (some ⟨b5, o5 + p * 66, none⟩)), Pr.eq (.agg (hopC SS[p])), Pr.eq (.slice (some ⟨b7, o7, none⟩) k c7), Pr.eq (.int .i64 (p : Int)), Pr.eq (.pointer (some ⟨b7, o7 + p * 66, none⟩)), Pr.eq (.agg (hopC SS[p])), Pr.eq (.bool false)] (by kernel_rfl) (by kernel_rfl) (by kernel_rfl) (by kernel_rfl) ⟨?_, ?_, ?_, ?_, ?_, ?_, ?_, ?_, ?_, trivial⟩ ?_
      · exact fun ac W hL he => stepOk_want rfl (op_move rfl (he.keep (.tmp 9) (by kernel_rfl)))
      · exact fun ac W hL he => stepOk_want rfl (op_move rfl (he.keep (.tmp 14) (by kernel_rfl)))
      · exact fun ac W hL he => stepOk_want rfl (op_idx rfl (he.get 0 67 (by kernel_rfl) rfl) (he.get 1 68 (by kernel_rfl) rfl) (idxHop W hlt) rfl)
      · exact fun ac W hL he => stepOk_want rfl (op_load rfl (he.get 2 69 (by kernel_rfl) rfl) (loadHopM hwp (range_later r5 hL)) rfl)
      · exact fun ac W hL he => stepOk_want rfl (op_move rfl (he.keep (.tmp 12) (by kernel_rfl)))
      · exact fun ac W hL he => stepOk_want rfl (op_move rfl (he.keep (.tmp 14) (by kernel_rfl)))
      · exact fun ac W hL he => stepOk_want rfl (op_idx rfl (he.get 4 71 (by kernel_rfl) rfl) (he.get 5 72 (by kernel_rfl) rfl) (idxHop W hlt) rfl)
      · exact fun ac W hL he => stepOk_want rfl (op_load rfl (he.get 6 73 (by kernel_rfl) rfl) (loadHopM hwp (range_later r7 hL)) rfl)
      · exact fun ac W hL he => stepOk_want rfl (op_binOp rfl (he.get 3 70 (by kernel_rfl) rfl) (he.get 7 74 (by kernel_rfl) rfl) (eqgHop _ _ _ _ _ _) (neqHopMe hwp _) rfl)
      intro xs2 W2 hL2 hx
      have v8 : xs2 8 = .bool false := hx 8 (by decide)
      simp only [putL, Nat.reduceAdd, Act.put, List.setIfInBounds_toArray, List.set_cons_succ, List.set_cons_zero]
      rw [v8]
      clear hx v8
      go_wp2_with fail
      go_roundw
      case rel => exact ⟨p + 1, by omega, by go_num, hLr.step hL2⟩
      case measure => simp [intOf]; omega
    · obtain rfl : p = k := by omega
      have hd : decide ((p : Int) < (p : Int)) = false := decide_eq_false (by omega)
      have hd' : decide (p < p) = false := decide_eq_false (by omega)
      have L4R : Later w4 wr := L4W.step hLr
      have L0R : Later w wr := L0W.step hLr
      clear s5 s7 hLr L4W L0W hd2
      go_wp2_with fail
      obtain ⟨wz, hwz⟩ : ∃ W, W = wr := ⟨_, rfl⟩
      rw [← hwz] at L4R L0R ⊢
      clear hwz
      go_loopw [15] (fun t wr => ∃ p : Nat, p ≤ n ∧ t = .int .i64 (p : Int) ∧ Later wz wr) (fun t _ => n - (intOf t).toNat)
      case atStart => exact ⟨0, by omega, rfl, Later.refl _⟩
      case round =>
        obtain ⟨j, hj, rfl, hLr⟩ := hrel
        by_cases hlt : j < n
        · have hd : decide ((j : Int) < (n : Int)) = true := decide_eq_true (by omega)
          have hd' : decide (j < n) = true := decide_eq_true hlt
          have hps : j < l.length := by rw [HN.out]; exact hlt
          obtain ⟨bA, oA, rfl, r5⟩ := (hA.later (L0R.step hLr)).at_ (k := j) (by simpa using hps)
          rw [List.getElem_map] at r5
          have r7 := range_later (hrange j hps) (L4R.step hLr)
          have hwp := HL.out _ (List.getElem_mem hps)
          go_upto_region 16 with fail
          refine wp_region_list [Pr.eq (.slice (some ⟨bM, oM, none⟩) n cM), Pr.eq (.int .i64 (j : Int)), Pr.eq (.pointer (some ⟨bM, oM + j * 67, none⟩)), Pr.eq (.agg (edgeC l[j])), Pr.eq (.slice (some ⟨bA, oA, none⟩) n c), Pr.eq (.int .i64 (j : Int)), Pr.eq (.pointer (some ⟨bA, oA + j * 67, none⟩)), Pr.eq (.agg (edgeC l[j])), Pr.eq (.bool false)] (by kernel_rfl) (by kernel_rfl) (by kernel_rfl) (by kernel_rfl) ⟨?_, ?_, ?_, ?_, ?_, ?_, ?_, ?_, ?_, trivial⟩ ?_
          · exact fun ac W hL he => stepOk_want rfl (op_move rfl (he.keep (.tmp 7) (by kernel_rfl)))
          · exact fun ac W hL he => stepOk_want rfl (op_move rfl (he.keep (.tmp 15) (by kernel_rfl)))
          · exact fun ac W hL he => stepOk_want rfl (op_idx rfl (he.get 0 82 (by kernel_rfl) rfl) (he.get 1 83 (by kernel_rfl) rfl) (idxEdge W hlt) rfl)
          · exact fun ac W hL he => stepOk_want rfl (op_load rfl (he.get 2 84 (by kernel_rfl) rfl) (loadEdgeM hwp (range_later r7 hL)) rfl)
          · exact fun ac W hL he => stepOk_want rfl (op_move rfl (he.keep (.tmp 2) (by kernel_rfl)))
          · exact fun ac W hL he => stepOk_want rfl (op_move rfl (he.keep (.tmp 15) (by kernel_rfl)))
          · exact fun ac W hL he => stepOk_want rfl (op_idx rfl (he.get 4 86 (by kernel_rfl) rfl) (he.get 5 87 (by kernel_rfl) rfl) (idxEdge W hlt) rfl)
          · exact fun ac W hL he => stepOk_want rfl (op_load rfl (he.get 6 88 (by kernel_rfl) rfl) (loadEdgeM hwp (range_later r5 hL)) rfl)
          · exact fun ac W hL he => stepOk_want rfl (op_binOp rfl (he.get 3 85 (by kernel_rfl) rfl) (he.get 7 89 (by kernel_rfl) rfl) (eqgEdge _ _ _ _ _ _) (neqEdgeMe hwp _) rfl)
          intro xs2 W2 hL2 hx
          have v8 : xs2 8 = .bool false := hx 8 (by decide)
          simp only [putL, Nat.reduceAdd, Act.put, List.setIfInBounds_toArray, List.set_cons_succ, List.set_cons_zero]
          rw [v8]
          clear hx v8
          go_wp2_with fail
          go_roundw
          case rel => exact ⟨j + 1, by omega, by go_num, hLr.step hL2⟩
          case measure => simp [intOf]; omega
        · obtain rfl : j = n := by omega
          have hd : decide ((j : Int) < (j : Int)) = false := decide_eq_false (by omega)
          have hd' : decide (j < j) = false := decide_eq_false (by omega)
          have c77 := range_later hlast (L4R.step hLr) 66 (.int .i64 77) (by rw [Array.getElem?_toList]; exact (edgeC_num edge77_wf).2.2)
          have L0F : Later w wr := L0R.step hLr
          have hj10 : j ≤ 10 := by omega
          go_upto_region 18 with fail
          refine wp_region_seqL [Pr.eq (.slice (some ⟨bM, oM, none⟩) j cM), Pr.eq (.slice A j c), Pr.eq (.int .i64 (j : Int)), Pr.eq (.int .i64 ((j + 1 : Nat) : Int)), Pr.eq (.slice (some ⟨bM, oM, none⟩) (j + 1) cM), Pr.eq (.slice A j c), Pr.eq (.int .i64 (j : Int)), Pr.eq (.pointer (some ⟨bM, oM + j * 67, none⟩)), Pr.eq (.pointer (some ⟨bM, oM + j * 67 + 66, none⟩)), Pr.eq (.int .i64 77), Pr.eq (.bool true), Pr.eq (.bool true), Pr.eq (.bool true), Pr.eq (.bool true), Pr.eq (.bool true)] (by kernel_rfl) (by kernel_rfl) (by kernel_rfl) ⟨?_, ?_, ?_, ?_, ?_, ?_, ?_, ?_, ?_, ?_, ?_, ?_, ?_, ?_, ?_, trivial⟩ ?_
          · exact fun ac W hL he => stepOk_want rfl (op_move rfl (he.keep (.tmp 7) (by kernel_rfl)))
          · exact fun ac W hL he => stepOk_want rfl (op_move rfl (he.keep (.tmp 2) (by kernel_rfl)))
          · exact fun ac W hL he => stepOk_want rfl (op_len Tryz.underlying40 rfl (he.get 1 92 (by kernel_rfl) rfl) rfl)
          · exact fun ac W hL he => stepOk_want rfl (op_binOp rfl (he.get 2 93 (by kernel_rfl) rfl) rfl (eqg_any rfl) (addInt j (by omega) _ W) rfl)
          · exact fun ac W hL he => stepOk_want rfl (op_slice (W' := W) rfl (he.get 0 91 (by kernel_rfl) rfl) (rfl : _ = none) (congrArg some (he.get 3 94 (by kernel_rfl) rfl)) rfl (run_slice_e2 hcM W) rfl)
          · exact fun ac W hL he => stepOk_want rfl (op_move rfl (he.keep (.tmp 2) (by kernel_rfl)))
          · exact fun ac W hL he => stepOk_want rfl (op_len Tryz.underlying40 rfl (he.get 5 96 (by kernel_rfl) rfl) rfl)
          · exact fun ac W hL he => stepOk_want rfl (op_idx rfl (he.get 4 95 (by kernel_rfl) rfl) (he.get 6 97 (by kernel_rfl) rfl) (idxEdge W (by omega)) rfl)
          · exact fun ac W hL he => stepOk_want rfl (op_fieldAddr rfl (he.get 7 98 (by kernel_rfl) rfl) fEdge3 rfl)
          · exact fun ac W hL he => stepOk_want rfl (op_load rfl (he.get 8 99 (by kernel_rfl) rfl) (ldI64 (Later.cell hL c77)) rfl)
          · exact fun ac W hL he => stepOk_want rfl (op_binOp rfl (he.get 9 100 (by kernel_rfl) rfl) rfl (by kernel_rfl) (by kernel_rfl) rfl)
          · exact fun ac W hL he => stepOk_want rfl (op_move rfl (he.get 10 101 (by kernel_rfl) rfl))
          · intro ac W hL he; refine stepOk_yes (j := 11) (t := 102) (b := true) rfl rfl (he.get 11 102 (by kernel_rfl) rfl) ?_; exact op_callF (vs := #[]) rfl (by simp) (enters_of Tryz.func8 (by kernel_rfl) rfl) (((HW.out W)).mono fun e W' ⟨he', hb⟩ => ⟨_, he', hb, rfl⟩)
          · exact fun ac W hL he => stepOk_want rfl (op_pick (b := true) rfl (he.get 11 102 (by kernel_rfl) rfl) (he.get 12 103 (by kernel_rfl) rfl))
          · exact fun ac W hL he => stepOk_want rfl (op_assign rfl (he.get 13 104 (by kernel_rfl) rfl))
          intro xs2 W2 hL2 hx
          have v14 : xs2 14 = .bool true := hx 14 (by decide)
          simp only [putL, Nat.reduceAdd, Act.put, List.setIfInBounds_toArray, List.set_cons_succ, List.set_cons_zero]
          rw [v14]
          clear hx v14
          go_wp2_with fail
          exact HΦ.out _ _ ⟨rfl, L0F.step hL2⟩
end Go.Proofs.YtloiaaolnfimgaaGreat
