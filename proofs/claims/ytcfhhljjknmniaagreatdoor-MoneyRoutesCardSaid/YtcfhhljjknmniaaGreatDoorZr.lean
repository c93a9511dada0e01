/- money: what each on a route is sent, as the document counts it. -/
import Derived.Test.YtcfhhljjknmniaaGreatDoorZf
import Derived.Deep.DeepCutAuto
set_option linter.unusedVariables false
set_option linter.unusedSimpArgs false
namespace Go.Proofs.YtcfhhljjknmniaaGreatDoor
open Go.RowKit Go.ChangeShapes Go.WideShapes Go.ChangeAt
theorem idxI0 {b o n c : Nat} (hn : n ≤ 1000) (W : World) : (Instr.indexAt 33 (.slice (some ⟨b, o, none⟩) (n + 1) c) (.int .i64 0)).run Tryz.prog W = .ok (.pointer (some ⟨b, o, none⟩)) W := by
  have hd : decide ((0 : Int) < ((n + 1 : Nat) : Int)) = true := decide_eq_true (by omega)
  have hd' : decide (0 < n + 1) = true := decide_eq_true (by omega)
  go_simp
theorem build1Z' (x : Int) (W : World) : (Instr.buildSlice 33 1 #[(0, numV x)]).run Tryz.prog W = .ok (.slice (some ⟨W.heap.size, 0, none⟩) 1 1) (W.alloc (.cells #[numV x] 2)) := build1Z x W
set_option maxRecDepth 100000 in
theorem refRoute_any (a : Int) (A : Option Addr) (n c : Nat) (fs : List Fee1) (w : World) (hn : fs.length = n) (hm : n ≤ 1000) (hr : RdV w A (feesC fs)) :
    Calls Tryz.prog 12 #[.int .i64 a, .slice A n c] w fun e w' => (∃ v, e = .returned (.tuple #[v, .int .i64 (routeS a fs).2]) ∧ ∃ B c', v = .slice B (routeS a fs).1.length c' ∧ RdV w' B ((routeS a fs).1.map numV)) ∧ Below w.heap.size w w' := by
  refine Calls.post fun Φ HΦ => ?_
  have HN := Lib.hid hn
  have h1 := fun W => right5_any a W
  simp only [← amts_one] at h1
  cases ha : amts [a] with
  | false =>
    rw [ha] at h1
    have hS : routeS a fs = ([], 2) := by unfold routeS; rw [ha]; rfl
    rw [hS] at HΦ
    go_enter Tryz.func12, Tryz.ntmps12
    go_wp2_with (first
      | (go_at_call 18; refine (h1 _).mono ?_; clear h1; rintro e w1 ⟨rfl, rfl⟩)
      | fail)
    exact HΦ.out _ _ ⟨⟨_, rfl, none, 0, rfl, RdV.nil _ _⟩, Later.refl _⟩
  | true =>
    rw [ha] at h1
    have HA := Lib.hid ha
    clear hn ha
    go_enter Tryz.func12, Tryz.ntmps12
    go_wp2_with (first
      | (go_at_call 18; refine (h1 _).mono ?_; clear h1; rintro e w1 ⟨rfl, rfl⟩)
      | fail)
    go_loopw [6] (fun t wr => ∃ k : Nat, k ≤ n ∧ t = .int .i64 k ∧ Later w wr ∧ (fs.take k).any (fun f => !rightF f) = false) (fun t _ => n - (intOf t).toNat)
    case atStart => exact ⟨0, by omega, rfl, Later.refl _, by simp⟩
    case round =>
      obtain ⟨k, hk, rfl, hL, hany⟩ := hrel
      by_cases hlt : k < n
      · have hd : decide ((k : Int) < (n : Int)) = true := decide_eq_true (by omega)
        have hd' : decide (k < n) = true := decide_eq_true hlt
        have hkl : k < fs.length := by rw [HN.out]; exact hlt
        obtain ⟨b, o, rfl, hc0, hc1⟩ := fees_at (hr.later hL) hkl
        obtain ⟨f, hf⟩ : ∃ f, fs[k] = f := ⟨_, rfl⟩
        have htk := take_any (p := fun f => !rightF f) hkl
        rw [hany, hf, Bool.false_or] at htk
        rw [hf] at hc0 hc1
        have hcl := fun W => refFee_any f.1 f.2 W
        rw [show (amts [f.1] && okRate f.2) = rightF f from rfl] at hcl
        cases hb : rightF f with
        | false =>
          rw [hb] at hcl
          rw [hb] at htk
          have hyes := any_take htk
          have hS : routeS a fs = ([], 2) := by unfold routeS; rw [HA.out, hyes]; rfl
          rw [hS] at HΦ
          clear hany htk hf hyes hS
          go_wp2_with (first
            | (go_at_call 17; refine (hcl _).mono ?_; rintro e w' ⟨rfl, hL1⟩)
            | fail)
          exact HΦ.out _ _ ⟨⟨_, rfl, none, 0, rfl, RdV.nil _ _⟩, hL.step hL1⟩
        | true =>
          rw [hb] at hcl
          rw [hb] at htk
          clear hany hf
          go_wp2_with (first
            | (go_at_call 17; refine (hcl _).mono ?_; rintro e w' ⟨rfl, hL1⟩)
            | fail)
          go_roundw
          case rel => exact ⟨k + 1, by omega, by go_num, hL.step hL1, htk⟩
          case measure => simp [intOf]; omega
      · obtain rfl : k = n := by omega
        have hd : decide ((k : Int) < (k : Int)) = false := decide_eq_false (by omega)
        have hd' : decide (k < k) = false := decide_eq_false (by omega)
        rw [List.take_of_length_le (by rw [HN.out]; exact Nat.le_refl _)] at hany
        have hS : routeS a fs = routeFrom a fs := by unfold routeS; rw [HA.out, hany]; rfl
        rw [hS] at HΦ
        have hr' := hr.later hL
        have ho := own1Z a wr w.heap.size hL.size
        clear hany hS hlt hk hr
        have hLa := hL.alloc (.cells #[.int .i64 a] 2)
        have hdn : IntKind.i64.wrap ((k : Int) - 1) = (k : Int) - 1 := IntWalk.i64_in _ (by omega)
        have hrz := rd1Z a wr
        obtain ⟨g, hg⟩ : ∃ g, wr.heap.size = g := ⟨_, rfl⟩
        rw [hg] at hrz
        go_wp2_with (first
          | (refine wpList_buildSl rfl 33 1 _ rfl #[(0, .int .i64 _)] rfl (build1Z _ _) ?_)
          | fail)
        have hfd := hr'.later ((Later.refl wr).alloc (.cells #[.int .i64 a] 2))
        clear ho hdn hg hd hd' hL hr'
        generalize wr.alloc (.cells #[.int .i64 a] 2) = w3 at *
        go_loopw [7, 8] (fun t u wq => ∃ (j : Nat) (x z : Int) (l : List Int) (B : Option Addr) (m d : Nat), j + m = k ∧ z = (j : Int) - 1 ∧ u = .int .i64 z ∧ t = .slice B (m + 1) d ∧ l.length = m ∧ Later w3 wq ∧ routeFrom a (fs.drop j) = (x :: l, 0) ∧ RdV wq B ((x :: l).map numV)) (fun _ u _ => ((intOf u) + 1).toNat)
        case atStart => exact ⟨k, a, _, [], _, 0, _, by omega, rfl, rfl, rfl, rfl, Later.refl _, by rw [List.drop_of_length_le (by rw [HN.out]; exact Nat.le_refl _)]; rfl, hrz⟩
        case round =>
          obtain ⟨j, x, z, l, B, m, d, hjm, hz, rfl, rfl, hlm, hL, hrf, hrd⟩ := hrel
          obtain ⟨b2, o2, rfl, hcx⟩ := hrd.at_ (k := 0) (by simp)
          rw [Nat.add_zero] at hcx
          have hcx' : wr.cell? ⟨b2, o2, none⟩ = some (numV x) := hcx
          clear hcx
          by_cases hj : j = 0
          · subst hj
            have hd : decide (0 ≤ z) = false := decide_eq_false (by omega)
            rw [List.drop_zero] at hrf
            rw [hrf] at HΦ
            have HLM := Lib.hid hlm
            clear hrf hlm hz
            go_wp2_with fail
            exact HΦ.out _ _ ⟨⟨_, rfl, some ⟨b2, o2, none⟩, d, by rw [List.length_cons, HLM.out], hrd⟩, hLa.step hL⟩
          · obtain ⟨i, rfl⟩ : ∃ i, j = i + 1 := ⟨j - 1, by omega⟩
            have hzi : z = (i : Int) := by omega
            subst hzi
            have hd : decide (0 ≤ (i : Int)) = true := decide_eq_true (by omega)
            have hin : i < k := by omega
            have hkl : i < fs.length := by rw [HN.out]; exact hin
            obtain ⟨b, o, rfl, hc0, hc1⟩ := fees_at (hfd.later hL) hkl
            obtain ⟨f, hf⟩ : ∃ f, fs[i] = f := ⟨_, rfl⟩
            rw [hf] at hc0 hc1
            have HFF := Lib.hid hf
            have HRF := Lib.hid hrf
            have HLM := Lib.hid hlm
            have HJM := Lib.hid hjm
            have hmb : m ≤ 1000 := by omega
            obtain ⟨s, hs⟩ : ∃ s, sendS f.1 f.2 x = s := ⟨_, rfl⟩
            obtain ⟨y, e⟩ := s
            have hsd := fun W => refSend_any f.1 f.2 x W
            simp only [hs] at hsd
            have HS := Lib.hid hs
            have hbn : k ≤ 1000 := hm
            clear hf hrf hlm hjm hs hz hj hrz
            go_upto_region 12 with fail
            refine wp_region_list [Pr.eq (.slice (some ⟨b, o, none⟩) k c), Pr.eq (.int .i64 (i : Int)), Pr.eq (.pointer (some ⟨b, o + i * 2, none⟩)), Pr.eq (feeV f.1 f.2), Pr.eq (.slice (some ⟨b2, o2, none⟩) (m + 1) d), Pr.eq (.pointer (some ⟨b2, o2, none⟩)), Pr.eq (numV x), Pr.eq (.tuple #[.int .i64 y, .int .i64 e]), Pr.eq (.tuple #[.int .i64 y, .int .i64 e]), Pr.eq (.int .i64 y), Pr.eq (.int .i64 e), Pr.eq (.int .i64 y), Pr.eq (.int .i64 e)] (by kernel_rfl) (by kernel_rfl) (by kernel_rfl) (by kernel_rfl) ⟨?_, ?_, ?_, ?_, ?_, ?_, ?_, ?_, ?_, ?_, ?_, ?_, ?_, trivial⟩ ?_
            · exact fun ac W hL he => stepOk_want rfl (op_move rfl (he.keep (.tmp 1) (by kernel_rfl)))
            · exact fun ac W hL he => stepOk_want rfl (op_move rfl (he.keep (.tmp 8) (by kernel_rfl)))
            · exact fun ac W hL he => stepOk_want rfl (op_idx rfl (he.get 0 36 (by kernel_rfl) rfl) (he.get 1 37 (by kernel_rfl) rfl) (idxFee hin hbn W) rfl)
            · exact fun ac W hL he => stepOk_want rfl (op_load rfl (he.get 2 38 (by kernel_rfl) rfl) (run_load_fee (cell_later hc0 hL) (cell_later hc1 hL)) rfl)
            · exact fun ac W hL he => stepOk_want rfl (op_move rfl (he.keep (.tmp 7) (by kernel_rfl)))
            · exact fun ac W hL he => stepOk_want rfl (op_idx rfl (he.get 4 40 (by kernel_rfl) rfl) rfl (idxI0 hmb W) rfl)
            · exact fun ac W hL he => stepOk_want rfl (op_load rfl (he.get 5 41 (by kernel_rfl) rfl) (loadInt (cell_later hcx' hL)) rfl)
            · intro ac W hL he; refine stepOk_want rfl ?_; have e0 : ac.eval (.tmp 39) = feeV f.1 f.2 := (he.get 3 39 (by kernel_rfl) rfl); have e1 : ac.eval (.tmp 42) = numV x := (he.get 6 42 (by kernel_rfl) rfl); exact op_callF (vs := #[feeV f.1 f.2, numV x]) rfl (by simp only [List.map_toArray, List.map_cons, List.map_nil, e0, e1]) (enters_of Tryz.func8 (by kernel_rfl) rfl) ((hsd W).mono fun e W' ⟨he', hb⟩ => ⟨_, he', hb, rfl⟩)
            · exact fun ac W hL he => stepOk_want rfl (op_move rfl (he.get 7 43 (by kernel_rfl) rfl))
            · exact fun ac W hL he => stepOk_want rfl (op_extract rfl (he.get 8 35 (by kernel_rfl) rfl) rfl rfl)
            · exact fun ac W hL he => stepOk_want rfl (op_extract rfl (he.get 8 35 (by kernel_rfl) rfl) rfl rfl)
            · exact fun ac W hL he => stepOk_want rfl (op_assign rfl (he.get 9 44 (by kernel_rfl) rfl))
            · exact fun ac W hL he => stepOk_want rfl (op_assign rfl (he.get 10 45 (by kernel_rfl) rfl))
            intro xs W hLW hxs
            have h9 : xs 11 = .int .i64 y := hxs 11 (by decide)
            have h10 : xs 12 = .int .i64 e := hxs 12 (by decide)
            clear hxs
            simp only [putL, Nat.reduceAdd, Act.put, List.setIfInBounds_toArray, List.set_cons_succ, List.set_cons_zero, h9, h10]
            clear h9 h10
            have hLW' := hL.step hLW
            have hrdW := hrd.later hLW
            clear hsd hc0 hc1 hcx' hrd hL hLW
            by_cases he : e = 0
            · subst he
              have hown := own1Z y W w3.heap.size hLW'.size
              have hrdW' := hrdW.later ((Later.refl W).alloc (.cells #[.int .i64 y] 2))
              have hdn : IntKind.i64.wrap ((i : Int) - 1) = (i : Int) - 1 := IntWalk.i64_in _ (by omega)
              have hll : (x :: l).length = m + 1 := by rw [List.length_cons, HLM.out]
              have hLX := hLW'.alloc (.cells #[.int .i64 y] 2)
              have hsx := hLX.size
              go_wp2_with (first
                | (refine wpList_buildSl rfl 33 1 _ rfl #[(0, .int .i64 _)] rfl (build1Z _ _) ?_)
                | (refine wpList_append_ints rfl (.tmp 50) (.tmp 51) rfl w3.heap.size _ [y] rfl hown (some ⟨b2, o2, none⟩) (m + 1) d (x :: l) rfl hll hrdW' (by simp; omega) hsx fun v' w' ho' hg' hb' => ?_; obtain ⟨A', c', hv', hca, hcb, hrd'⟩ := ho'.slice; subst hv')
                | fail)
              go_roundw
              case rel =>
                refine ⟨i, y, _, x :: l, A', m + 1, c', by have := HJM.out; omega, rfl, rfl, rfl, hll, hLX.grown hg' hsx (fun j e => (hown.at_ j e).1), ?_, hrd'⟩
                have hff := HFF.out
                subst hff
                exact routeFrom_cons hkl HRF.out HS.out
              case measure => simp [intOf]
            · have e1 : (e != 0) = true := by simpa using he
              go_wp2_with fail
              have hR : routeFrom a fs = ([], e) := by
                have hff := HFF.out
                subst hff
                exact routeFrom_bad hkl HRF.out HS.out he
              rw [hR] at HΦ
              exact HΦ.out _ _ ⟨⟨_, rfl, none, 0, rfl, RdV.nil _ _⟩, hLa.step hLW'⟩
set_option maxRecDepth 100000 in
theorem moneyRoutes_walk (a : Int) (wa : (Lit.int .i64 a).wf = true) (A : Option Addr) (n c : Nat) (fs : List Fee1) (w : World) (hin : InFees w A n c fs) (hT : Tabs w) :
    Calls Tryz.prog 4 #[.int .i64 a, .slice A n c] w fun e w' => e = .returned (.bool true) ∧ Below w.heap.size w w' := by
  refine Calls.post fun Φ HΦ => ?_
  obtain ⟨hn, hnc, hcm, hr⟩ := hin
  have hwk := fun W (h : Later w W) => works_yes W (hT.later h)
  clear hT wa
  by_cases hlen : n ≤ 20
  case neg =>
    have hd : decide ((20 : Int) < (n : Int)) = true := decide_eq_true (by omega)
    have hd2 : decide (20 < n) = true := decide_eq_true (by omega)
    clear hr
    go_enter Tryz.func4, Tryz.ntmps4
    go_wp2_with (first
      | (go_at_call 10; refine (hwk _ (Later.refl _)).mono ?_; clear hwk; rintro e w4 ⟨rfl, hL4⟩)
      | fail)
    exact HΦ.out _ _ ⟨rfl, hL4⟩
  have hd : decide ((20 : Int) < (n : Int)) = false := decide_eq_false (by omega)
  have hd2 : decide (20 < n) = false := decide_eq_false (by omega)
  have h1 := route_any a A n c fs w hn (by omega) hr
  have h2 := fun W (h : Later w W) => refRoute_any a A n c fs W hn (by omega) (hr.later h)
  have hlr : (routeS a fs).1.length ≤ 100 := by
    have key : ∀ l : List Fee1, (routeFrom a l).1.length ≤ l.length + 1 := by
      intro l
      induction l with
      | nil => simp [routeFrom]
      | cons f l ih =>
        unfold routeFrom
        split
        · split
          · simp only [List.length_cons]; omega
          · simp
        · simp
    have := key fs
    unfold routeS
    split
    · omega
    · simp
  generalize routeS a fs = R at *
  obtain ⟨l, y⟩ := R
  simp only at h1 h2 hlr
  obtain ⟨m, hm⟩ : ∃ m, l.length = m := ⟨_, rfl⟩
  rw [hm] at h1 h2 hlr
  have hsm := fun B D c1 c2 W (hB : RdV W B (l.map numV)) (hD : RdV W D (l.map numV)) => same_any B D m m c1 c2 l l W hm hm (by omega) (by omega) hB hD
  rw [decide_eq_true rfl] at hsm
  clear hm hlr hd hd2
  go_enter Tryz.func4, Tryz.ntmps4
  go_wp2_with (first
    | (go_at_call 11; refine h1.mono ?_; clear h1; rintro e w1 ⟨⟨v, rfl, B1, c1, rfl, hr1⟩, hL1⟩)
    | (go_at_call 12; refine (h2 _ hL1).mono ?_; clear h2; rintro e w2 ⟨⟨v, rfl, B2, c2, rfl, hr2⟩, hL2⟩; have hr3 := hr1.later hL2; have hL3 := Later.step hL1 hL2)
    | (go_at_call 13; refine (hsm B1 B2 c1 c2 _ hr3 hr2).mono ?_; clear hsm; rintro e w3 ⟨rfl, hL4⟩; have hL5 := hL3.step hL4)
    | (go_at_call 9; refine (num5_any _ _).mono ?_; rintro e wb ⟨rfl, rfl⟩)
    | (go_at_call 10; refine (hwk _ hL5).mono ?_; clear hwk; rintro e w5 ⟨rfl, hL6⟩)
    | fail)
  exact HΦ.out _ _ ⟨rfl, hL5.step hL6⟩
end Go.Proofs.YtcfhhljjknmniaaGreatDoor
