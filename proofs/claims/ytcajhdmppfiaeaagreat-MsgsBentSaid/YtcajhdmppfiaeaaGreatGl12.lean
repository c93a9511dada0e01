/- Walks, msgs: the law of bodies. -/
import Derived.Test.YtcajhdmppfiaeaaGreatGo
set_option linter.unusedVariables false
set_option linter.unusedSimpArgs false
namespace Go.Proofs.YtcajhdmppfiaeaaGreat
open Go.RowKit Ms
theorem few_any (s : Said) (hs : s.wf) (hm : s.route.length ≤ 9223372036854775807) (w : World) : Calls Tryz.prog 8 #[.agg (saidC s)] w fun e w' => e = .returned (.bool (decide (s.route.length ≤ 600))) ∧ Later w w' := by
  have k1 := Row.new w 29 (saidC s)
  have hb := below_new w (.cells (saidC s) 29)
  have hbx := boxSaid hs w
  obtain ⟨b, h3⟩ : ∃ b, decide (s.route.length ≤ 600) = b := ⟨_, rfl⟩
  have h3' : decide ((s.route.length : Int) ≤ 600) = b := by rw [← h3]; exact decide_eq_decide.2 (by omega)
  rw [h3]
  clear h3
  go_enter Tryz.func8, Tryz.ntmps8
  go_upto_region 1 with fail
  obtain ⟨g, hg⟩ : ∃ q, q = w.heap.size := ⟨_, rfl⟩
  rw [← hg] at k1 ⊢
  clear hbx hg
  generalize w.alloc (.cells (saidC s) 29) = w1 at *
  have c1 : w1.cell? ⟨g, 301, none⟩ = some (.string ⟨s.route.toArray⟩) := (k1.cell _).trans (saidC_route hs)
  have hsz : (⟨s.route.toArray⟩ : ByteArray).size = s.route.length := by simp [ByteArray.size]
  go_wp2_with fail
  go_ret
  exact ⟨rfl, hb⟩
set_option maxRecDepth 100000 in
set_option maxHeartbeats 4000000 in
theorem msgsBodies_no (s : Said) (hs : s.wf) (hm : s.route.length ≤ 9223372036854775807) (hf : decide (s.route.length ≤ 600) = false) (w : World) :
    Calls Tryz.prog 3 #[.agg (saidC s)] w fun e w' => e = .returned (.bool true) ∧ Below w.heap.size w w' := by
  have k1 := Row.new w 29 (saidC s)
  have hb := below_new w (.cells (saidC s) 29)
  have hbx := boxSaid hs w
  have HFW := Lib.hid (fun W => hf ▸ few_any s hs hm W)
  have HLD := Lib.hid (loadSaid hs k1)
  clear k1 hf
  go_enter Tryz.func3, Tryz.ntmps3
  go_upto_region 1 with fail
  clear hbx
  refine wp_region_lit ?_
  refine wpList_load rfl 29 (.tmp 1) rfl (.pointer (some ⟨w.heap.size, 0, none⟩)) rfl HLD.out ?_
  go_wp2_with (first
    | (go_at_call 8; refine (HFW.out _).mono ?_; rintro e w2 ⟨rfl, hL2⟩)
    | (go_at_call 9; refine (works_yes _).mono ?_; rintro e w3 ⟨rfl, hL3⟩)
    | fail)
  go_ret
  exact ⟨rfl, hb.trans ((hL2.trans (hL3.mono hL2.size)).mono hb.size)⟩
set_option maxRecDepth 100000 in
set_option maxHeartbeats 4000000 in
theorem msgsBodies_wrong (s : Said) (hs : s.wf) (hm : s.route.length ≤ 9223372036854775807) (hf : decide (s.route.length ≤ 600) = true) (hr : Ms.right s = false) (w : World) :
    Calls Tryz.prog 3 #[.agg (saidC s)] w fun e w' => e = .returned (.bool true) ∧ Below w.heap.size w w' := by
  have k1 := Row.new w 29 (saidC s)
  have hb := below_new w (.cells (saidC s) 29)
  have hbx := boxSaid hs w
  have HFW := Lib.hid (fun W => hf ▸ few_any s hs hm W)
  have HRT := Lib.hid (fun W => hr ▸ refRight_any s hs hm W)
  have hbody := fun W => mbody_any s hs hm W
  unfold bodyR bodyE at hbody
  rw [hr] at hbody
  have HBODY := Lib.hid hbody
  have hck := fun W => mcheck_any s hs hm W
  unfold bodyE at hck
  rw [hr] at hck
  have HCK := Lib.hid hck
  clear hbody hck hf
  go_enter Tryz.func3, Tryz.ntmps3
  go_upto_region 1 with fail
  obtain ⟨g, hg⟩ : ∃ q, q = w.heap.size := ⟨_, rfl⟩
  rw [← hg] at k1 ⊢
  clear hbx hg
  generalize w.alloc (.cells (saidC s) 29) = w1 at *
  have HLD := Lib.hid (loadSaid hs k1)
  refine wp_region_lit ?_
  refine wpList_load rfl 29 (.tmp 1) rfl (.pointer (some ⟨g, 0, none⟩)) rfl HLD.out ?_
  go_upto_region 3 with (first
    | (go_at_call 8; refine (HFW.out _).mono ?_; rintro e w2 ⟨rfl, hL2⟩)
    | fail)
  clear HLD
  have k2 := k1.later hL2
  have hb2 := Later.step hb hL2
  clear k1 hb hL2
  have HLD := Lib.hid (loadSaid hs k2)
  refine wp_region_lit ?_
  refine wpList_load rfl 29 (.tmp 1) rfl (.pointer (some ⟨g, 0, none⟩)) rfl HLD.out ?_
  go_upto_region 4 with (first
    | (go_at_call 10; refine (HBODY.out _).mono ?_; rintro e w3 ⟨v3, rfl, hown, hL3⟩; obtain ⟨A3, c3, rfl, h3c, h3m, hr3⟩ := hown.slice)
    | fail)
  clear HLD HBODY hown
  have k3 := k2.later hL3
  have hb3 := Later.step hb2 hL3
  clear k2 hb2 hL3
  have HLD := Lib.hid (loadSaid hs k3)
  refine wp_region_lit ?_
  refine wpList_load rfl 29 (.tmp 1) rfl (.pointer (some ⟨g, 0, none⟩)) rfl HLD.out ?_
  go_upto_region 5 with (first
    | (go_at_call 11; refine (HRT.out _).mono ?_; rintro e w4 ⟨rfl, hL4⟩)
    | fail)
  clear HLD
  have HK := Lib.hid (k3.later hL4)
  have hb4 := Later.step hb3 hL4
  clear k3 hb3 hL4 hr3
  have HNN := Lib.hid (fun W => num_n 2 W (by decide))
  go_wp2_with (first
    | (guard_target =~ wpList _ _ _ (_ :: _) _ _; refine wpList_loadG rfl 29 (.tmp 1) rfl (.pointer (some ⟨g, 0, none⟩)) rfl (loadSaid hs HK.out) ?_)
    | (go_at_call 12; refine (HNN.out _).mono ?_; rintro e w5 ⟨rfl, rfl⟩)
    | (go_at_call 13; refine (HCK.out _).mono ?_; rintro e w6 ⟨rfl, hL6⟩)
    | (go_at_call 9; refine (works_yes _).mono ?_; rintro e w7 ⟨rfl, hL7⟩)
    | fail)
  go_ret
  exact ⟨rfl, hb4.trans ((hL6.trans (hL7.mono hL6.size)).mono hb4.size)⟩
set_option maxRecDepth 100000 in
set_option maxHeartbeats 4000000 in
theorem msgsBodies_right (s : Said) (hs : s.wf) (hm : s.route.length ≤ 9223372036854775807) (hf : decide (s.route.length ≤ 600) = true) (hr : Ms.right s = true) (w : World) :
    Calls Tryz.prog 3 #[.agg (saidC s)] w fun e w' => e = .returned (.bool true) ∧ Below w.heap.size w w' := by
  have hr0 := hr
  have HRF := Lib.hid (fun W => refBody_any s hs hr (right_route hr) W)
  have k1 := Row.new w 29 (saidC s)
  have hb := below_new w (.cells (saidC s) 29)
  have hbx := boxSaid hs w
  have HFW := Lib.hid (fun W => hf ▸ few_any s hs hm W)
  have HRT := Lib.hid (fun W => hr ▸ refRight_any s hs hm W)
  have hbody := fun W => mbody_any s hs hm W
  unfold bodyR bodyE at hbody
  rw [hr] at hbody
  have HBODY := Lib.hid hbody
  have hck := fun W => mcheck_any s hs hm W
  unfold bodyE at hck
  rw [hr] at hck
  have HCK := Lib.hid hck
  clear hbody hck hf
  go_enter Tryz.func3, Tryz.ntmps3
  go_upto_region 1 with fail
  obtain ⟨g, hg⟩ : ∃ q, q = w.heap.size := ⟨_, rfl⟩
  rw [← hg] at k1 ⊢
  clear hbx hg
  generalize w.alloc (.cells (saidC s) 29) = w1 at *
  have HLD := Lib.hid (loadSaid hs k1)
  refine wp_region_lit ?_
  refine wpList_load rfl 29 (.tmp 1) rfl (.pointer (some ⟨g, 0, none⟩)) rfl HLD.out ?_
  go_upto_region 3 with (first
    | (go_at_call 8; refine (HFW.out _).mono ?_; rintro e w2 ⟨rfl, hL2⟩)
    | fail)
  clear HLD
  have k2 := k1.later hL2
  have hb2 := Later.step hb hL2
  clear k1 hb hL2
  have HLD := Lib.hid (loadSaid hs k2)
  refine wp_region_lit ?_
  refine wpList_load rfl 29 (.tmp 1) rfl (.pointer (some ⟨g, 0, none⟩)) rfl HLD.out ?_
  go_upto_region 4 with (first
    | (go_at_call 10; refine (HBODY.out _).mono ?_; rintro e w3 ⟨v3, rfl, hown, hL3⟩; obtain ⟨A3, c3, rfl, h3c, h3m, hr3⟩ := hown.slice)
    | fail)
  clear HLD HBODY hown
  have k3 := k2.later hL3
  have hb3 := Later.step hb2 hL3
  clear k2 hb2 hL3
  have HLD := Lib.hid (loadSaid hs k3)
  refine wp_region_lit ?_
  refine wpList_load rfl 29 (.tmp 1) rfl (.pointer (some ⟨g, 0, none⟩)) rfl HLD.out ?_
  go_upto_region 6 with (first
    | (go_at_call 11; refine (HRT.out _).mono ?_; rintro e w4 ⟨rfl, hL4⟩)
    | fail)
  clear HLD
  have k4 := k3.later hL4
  have hr4 := hr3.later hL4
  have hb4 := Later.step hb3 hL4
  clear k3 hb3 hL4 hr3
  refine (wpIn_wide (n := 0)).1 ?_
  refine wpIn_region_last wide_wide [Pr.eq (.slice A3 (body s).length c3), Pr.eq (.string ⟨(body s).toArray⟩), Pr.eq (.agg (saidC s)), Pr.rd (body s).length (body s), Pr.eq (.string ⟨(body s).toArray⟩), Pr.eq (.bool true), Pr.eq (.bool true), Pr.eq (.int .i64 0), Pr.eq (.int .i64 0), Pr.eq (.bool true), Pr.eq (.bool true), Pr.eq (.bool true), Pr.eq (.agg (saidC s)), Pr.eq (.int .i64 0), Pr.eq (.int .i64 0), Pr.eq (.bool true), Pr.eq (.bool true), Pr.eq (.bool true), Pr.eq (.bool true), Pr.eq (.bool true)] (by kernel_rfl) (by kernel_rfl) (by kernel_rfl) (by kernel_rfl) (by kernel_rfl) (by kernel_rfl) rfl ⟨?_, ?_, ?_, ?_, ?_, ?_, ?_, ?_, ?_, ?_, ?_, ?_, ?_, ?_, ?_, ?_, ?_, ?_, ?_, ?_, trivial⟩ ?_
  · exact fun ac W hL he => stepOk_want rfl (op_move rfl (he.keep (.tmp 3) (by kernel_rfl)))
  · exact fun ac W hL he => stepOk_want rfl (op_convert rfl (he.get 0 34 (by kernel_rfl) rfl) (run_string_rd W 32 9 5 A3 (body s).length c3 _ Tryz.underlying32 Tryz.underlying5 Tryz.underlying9 rfl (hr4.later hL)) (Later.refl _) rfl)
  · exact fun ac W hL he => stepOk_want rfl (op_load rfl (he.keep (.tmp 1) (by kernel_rfl)) (loadSaid hs (k4.later hL)) rfl)
  · intro ac W hL he; refine stepOk_want rfl ?_; have e0 : ac.eval (.tmp 36) = .agg (saidC s) := he.get 2 36 (by kernel_rfl) rfl; exact op_callF (vs := #[.agg (saidC s)]) rfl (by simp only [List.map_toArray, List.map_cons, List.map_nil, e0]) (enters_of Tryz.func14 (by kernel_rfl) rfl) ((HRF.out W).mono fun e W' ⟨v, he', ho, hb⟩ => ⟨v, he', hb, by obtain ⟨A, c, e1, h1, _, h2⟩ := ho.slice; exact ⟨A, c, e1, h1, h2⟩⟩)
  · intro ac W hL he; refine stepOk_want rfl ?_; obtain ⟨A, c, e37, _, hz⟩ : ∃ A c, ac.eval (.tmp 37) = .slice A (body s).length c ∧ (body s).length ≤ c ∧ Rd W A (body s) := he.get 3 37 (by kernel_rfl) rfl; exact op_convert rfl e37 (run_string_rd W 32 9 5 _ _ c (body s) Tryz.underlying32 Tryz.underlying5 Tryz.underlying9 rfl hz) (Later.refl _) rfl
  · exact fun ac W hL he => stepOk_want rfl (op_binOp rfl (he.get 1 35 (by kernel_rfl) rfl) (he.get 4 38 (by kernel_rfl) rfl) eqgS (eqlS_self _ _) rfl)
  · exact fun ac W hL he => stepOk_want rfl (op_move rfl (he.get 5 39 (by kernel_rfl) rfl))
  · exact fun ac W hL he => stepOk_yes (j := 6) (t := 40) (b := true) rfl rfl (he.get 6 40 (by kernel_rfl) rfl) (op_move rfl (he.keep (.tmp 4) (by kernel_rfl)))
  · intro ac W hL he; refine stepOk_yes (j := 6) (t := 40) (b := true) rfl rfl (he.get 6 40 (by kernel_rfl) rfl) ?_; have e0 : ac.eval (.tmp 41) = .int .i64 0 := (he.get 7 41 (by kernel_rfl) rfl); exact op_callF (vs := #[.int .i64 0]) rfl (by simp only [List.map_toArray, List.map_cons, List.map_nil, e0]) (enters_of Tryz.func12 (by kernel_rfl) rfl) (((num_n 0 W (by decide))).mono fun e W' ⟨he', hw'⟩ => ⟨_, he', hw' ▸ Later.refl _, rfl⟩)
  · exact fun ac W hL he => stepOk_yes (j := 6) (t := 40) (b := true) rfl rfl (he.get 6 40 (by kernel_rfl) rfl) (op_binOp rfl (he.get 8 42 (by kernel_rfl) rfl) rfl eqgII (eqlII 0 W) rfl)
  · exact fun ac W hL he => stepOk_want rfl (op_pick (b := true) rfl (he.get 6 40 (by kernel_rfl) rfl) (he.get 9 43 (by kernel_rfl) rfl))
  · exact fun ac W hL he => stepOk_want rfl (op_move rfl (he.get 10 44 (by kernel_rfl) rfl))
  · exact fun ac W hL he => stepOk_yes (j := 11) (t := 45) (b := true) rfl rfl (he.get 11 45 (by kernel_rfl) rfl) (op_load rfl (he.keep (.tmp 1) (by kernel_rfl)) (loadSaid hs (k4.later hL)) rfl)
  · intro ac W hL he; refine stepOk_yes (j := 11) (t := 45) (b := true) rfl rfl (he.get 11 45 (by kernel_rfl) rfl) ?_; have e0 : ac.eval (.tmp 46) = .agg (saidC s) := (he.get 12 46 (by kernel_rfl) rfl); exact op_callF (vs := #[.agg (saidC s)]) rfl (by simp only [List.map_toArray, List.map_cons, List.map_nil, e0]) (enters_of Tryz.func13 (by kernel_rfl) rfl) (((HCK.out W)).mono fun e W' ⟨he', hb⟩ => ⟨_, he', hb, rfl⟩)
  · intro ac W hL he; refine stepOk_yes (j := 11) (t := 45) (b := true) rfl rfl (he.get 11 45 (by kernel_rfl) rfl) ?_; have e0 : ac.eval (.tmp 47) = .int .i64 0 := (he.get 13 47 (by kernel_rfl) rfl); exact op_callF (vs := #[.int .i64 0]) rfl (by simp only [List.map_toArray, List.map_cons, List.map_nil, e0]) (enters_of Tryz.func12 (by kernel_rfl) rfl) (((num_n 0 W (by decide))).mono fun e W' ⟨he', hw'⟩ => ⟨_, he', hw' ▸ Later.refl _, rfl⟩)
  · exact fun ac W hL he => stepOk_yes (j := 11) (t := 45) (b := true) rfl rfl (he.get 11 45 (by kernel_rfl) rfl) (op_binOp rfl (he.get 14 48 (by kernel_rfl) rfl) rfl eqgII (eqlII 0 W) rfl)
  · exact fun ac W hL he => stepOk_want rfl (op_pick (b := true) rfl (he.get 11 45 (by kernel_rfl) rfl) (he.get 15 49 (by kernel_rfl) rfl))
  · exact fun ac W hL he => stepOk_want rfl (op_move rfl (he.get 16 50 (by kernel_rfl) rfl))
  · intro ac W hL he; refine stepOk_yes (j := 17) (t := 51) (b := true) rfl rfl (he.get 17 51 (by kernel_rfl) rfl) ?_; exact op_callF (vs := #[]) rfl (by simp) (enters_of Tryz.func9 (by kernel_rfl) rfl) (((works_yes W)).mono fun e W' ⟨he', hb⟩ => ⟨_, he', hb, rfl⟩)
  · exact fun ac W hL he => stepOk_want rfl (op_pick (b := true) rfl (he.get 17 51 (by kernel_rfl) rfl) (he.get 18 52 (by kernel_rfl) rfl))
  intro xs W hL hx hk hgt
  have e53 := hgt 19 53 (by decide) (by kernel_rfl)
  rw [show xs 19 = .bool true from hx 19 (by decide)] at e53
  refine last_assign rfl e53 ?_
  clear hx hk hgt e53
  simp only [initL, lastL, putL, Nat.reduceAdd, Act.put, List.setIfInBounds_toArray, List.set_cons_succ, List.set_cons_zero]
  have HL := Lib.hid (Later.step hb4 hL)
  go_wp2_with fail
  go_ret
  exact ⟨rfl, HL.out⟩
theorem msgsBodies_all (s : Said) (hs : s.wf) (hm : s.route.length ≤ 9223372036854775807) (w : World) : Calls Tryz.prog 3 #[.agg (saidC s)] w fun e w' => e = .returned (.bool true) ∧ Below w.heap.size w w' := by
  cases hf : decide (s.route.length ≤ 600)
  · exact msgsBodies_no s hs hm hf w
  · cases hr : Ms.right s
    · exact msgsBodies_wrong s hs hm hf hr w
    · exact msgsBodies_right s hs hm hf hr w
theorem msgsBodies_walk (v : Value) (w : World) (h : ∃ s : Said, s.wf ∧ s.route.length ≤ 9223372036854775807 ∧ v = .agg (saidC s)) : Calls Tryz.prog 3 #[v] w fun e w' => e = .returned (.bool true) ∧ Below w.heap.size w w' := by
  obtain ⟨s, hs, hm, rfl⟩ := h
  exact msgsBodies_all s hs hm w
end Go.Proofs.YtcajhdmppfiaeaaGreat
