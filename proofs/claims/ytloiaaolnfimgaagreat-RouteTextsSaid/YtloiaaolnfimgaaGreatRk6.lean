/- Walks, route: Plan. -/
import Derived.Test.YtloiaaolnfimgaaGreatRk6c
import Derived.Test.YtloiaaolnfimgaaGreatRk6d
set_option linter.unusedVariables false
set_option linter.unusedSimpArgs false
namespace Go.Proofs.YtloiaaolnfimgaaGreat
open Go.RowKit Rt
theorem storeHopsV {W : World} {g : Nat} {v u : Value} {S : Option Addr} {m c : Nat} (e : v = .slice S m c) (hr : Row W g 22 #[u]) : (Instr.storeAt 22 (.pointer (some ⟨g, 0, none⟩)) v).run Tryz.prog W = .ok () (W.setCell ⟨g, 0, none⟩ v) := by
  subst e
  have h0 : W.cell? ⟨g, 0, none⟩ = some u := (hr.cell 0).trans rfl
  have h1 := hr.frozen 0
  go_simp
set_option maxRecDepth 100000 in
set_option maxHeartbeats 4000000 in
theorem plan_main (a x : Int) (A : Option Addr) (n c : Nat) (l : List Rt.Edge) (w : World) (hl : ∀ e ∈ l, e.wf) (hn : l.length = n) (hnm : n ≤ 1000000) (hnc : n ≤ c) (hA : Recs 67 w A (l.map edgeL)) (hno : okPlan a x l = true → (routeS a (feesOf l.tail)).2 = 0 → expAt x l 0 ≤ 2147483647) :
    CallsIn Fence.wide 12 Tryz.prog 14 #[.int .i64 a, .int .i64 x, .slice A n c] w fun e w' => (∃ v, e = .returned (.tuple #[.agg (hopC (plan a x l).1), v, .int .i64 (plan a x l).2.2]) ∧ ∃ B c', v = .slice B (plan a x l).2.1.length c' ∧ Recs 66 w' B ((plan a x l).2.1.map hopL)) ∧ Below w.heap.size w w' := by
  refine callsIn_wide.2 (Calls.post fun Φ HΦ => (callsIn_wide (n := 12)).1 ?_)
  have HL := Lib.hid hl
  have HA := Lib.hid hA
  have HN := Lib.hid hn
  have HNO0 := Lib.hid hno
  have hmf : ∀ (fn : Fn) (first cap : Array Value) (w : World), (Instr.makeFunc fn first cap).run Tryz.prog w = .ok (.func fn first cap) w := fun _ _ _ _ => rfl
  refine callsIn_of_wp_marks Tryz.func14 rfl trivial ?_ rfl
  simp only [Tryz.ntmps14, List.size_toArray, List.length_cons, List.length_nil, Nat.reduceAdd, Nat.reduceSub, Array.replicate_succ, Array.replicate_zero, List.push_toArray, List.append_toArray, List.nil_append, List.cons_append]
  refine wpIn_wide.2 ?_
  have g0 := Row.new w 2 #[.int .i64 a]
  have L1 := below_new w (.cells #[.int .i64 a] 2)
  generalize e1 : w.alloc (.cells #[.int .i64 a] 2) = w1 at g0 L1
  have g1 := Row.new w1 2 #[.int .i64 x]
  have L2 := below_new w1 (.cells #[.int .i64 x] 2)
  generalize e2 : w1.alloc (.cells #[.int .i64 x] 2) = w2 at g1 L2
  have g2 := Row.new w2 40 #[.slice A n c]
  have L3 := below_new w2 (.cells #[.slice A n c] 40)
  generalize e3 : w2.alloc (.cells #[.slice A n c] 40) = w3 at g2 L3
  have g3 := Row.new w3 27 (hopC noHop)
  have L4 := below_new w3 (.cells (hopC noHop) 27)
  generalize e4 : w3.alloc (.cells (hopC noHop) 27) = w4 at g3 L4
  have g4 := Row.new w4 22 #[.slice none 0 0]
  have L5 := below_new w4 (.cells #[.slice none 0 0] 22)
  generalize e5 : w4.alloc (.cells #[.slice none 0 0] 22) = w5 at g4 L5
  have g5 := Row.new w5 28 #[.int .i64 0]
  have L6 := below_new w5 (.cells #[.int .i64 0] 28)
  generalize e6 : w5.alloc (.cells #[.int .i64 0] 28) = w6 at g5 L6
  have s1 : w1.heap.size = w.heap.size + 1 := by rw [← e1]; simp
  have s2 : w2.heap.size = w.heap.size + 2 := by rw [← e2]; simp [s1]
  have s3 : w3.heap.size = w.heap.size + 3 := by rw [← e3]; simp [s2]
  have s4 : w4.heap.size = w.heap.size + 4 := by rw [← e4]; simp [s3]
  have s5 : w5.heap.size = w.heap.size + 5 := by rw [← e5]; simp [s4]
  rw [s1] at g1; rw [s2] at g2; rw [s3] at g3; rw [s4] at g4; rw [s5] at g5
  go_upto_region 1 with (first
    | (with_reducible refine wpList_alloc rfl 27 rfl (allocHop _) ?_)
    | (with_reducible refine wpList_alloc rfl 22 rfl (allocHops _) ?_)
    | fail)
  obtain ⟨q0, hq0⟩ : ∃ q, q = w.heap.size := ⟨_, rfl⟩
  obtain ⟨q1, hq1⟩ : ∃ q, q = w.heap.size + 1 := ⟨_, rfl⟩
  obtain ⟨q2, hq2⟩ : ∃ q, q = w.heap.size + 2 := ⟨_, rfl⟩
  obtain ⟨q3, hq3⟩ : ∃ q, q = w.heap.size + 3 := ⟨_, rfl⟩
  obtain ⟨q4, hq4⟩ : ∃ q, q = w.heap.size + 4 := ⟨_, rfl⟩
  obtain ⟨q5, hq5⟩ : ∃ q, q = w.heap.size + 5 := ⟨_, rfl⟩
  have hP : PR w q0 q1 q2 q3 q4 q5 a x A n c noHop (.slice none 0 0) 0 w6 := by
    subst hq0 hq1 hq2 hq3 hq4 hq5
    exact ⟨((((g0.later L2).later L3).later L4).later L5).later L6, (((g1.later L3).later L4).later L5).later L6, ((g2.later L4).later L5).later L6, (g3.later L5).later L6, g4.later L6, g5, ((((Later.step L1 L2).step L3).step L4).step L5).step L6⟩
  rw [← hq5, ← hq4, ← hq3, ← hq2, ← hq1, ← hq0]
  replace hq3 : w.heap.size ≤ q3 := by omega
  replace hq4 : w.heap.size ≤ q4 := by omega
  replace hq5 : w.heap.size ≤ q5 := by omega
  have hqw : q0 < w6.heap.size ∧ q1 < w6.heap.size ∧ q2 < w6.heap.size ∧ q3 < w6.heap.size ∧ q4 < w6.heap.size ∧ q5 < w6.heap.size := ⟨hP.r0.lt, hP.r1.lt, hP.r2.lt, hP.r3.lt, hP.r4.lt, hP.r5.lt⟩
  have hb0 := hP.b
  have hA6 := hA.below hb0
  clear g0 g1 g2 g3 g4 g5 L1 L2 L3 L4 L5 L6 e1 e2 e3 e4 e5 e6 s1 s2 s3 s4 s5 hq0 hq1 hq2 hl hn hno hA
  go_upto_region 2 with fail
  clear hmf
  have c0 : w6.cell? ⟨q0, 0, none⟩ = some (.int .i64 a) := (hP.r0.cell 0).trans rfl
  have c1 : w6.cell? ⟨q1, 0, none⟩ = some (.int .i64 x) := (hP.r1.cell 0).trans rfl
  have c2 := loadEdges ((hP.r2.cell 0).trans rfl)
  have hin := fun W => rin_int (n : Int) 1 6 W
  have hpd := fun W => rpaid_any a x W
  have hwF := noHop_wf
  obtain ⟨b1, hb1⟩ : ∃ b, (decide (1 ≤ (n : Int)) && decide ((n : Int) ≤ 6)) = b := ⟨_, rfl⟩
  obtain ⟨b2, hb2⟩ : ∃ b, paid a x = b := ⟨_, rfl⟩
  rw [hb1] at hin
  rw [hb2] at hpd
  have HB1 := Lib.hid hb1
  have HB2 := Lib.hid hb2
  clear hb1 hb2
  have hbad : b1 = false ∨ b2 = false → plan a x l = (noHop, [], 2) := fun h => by
    have : okPlan a x l = false := by
      unfold okPlan
      rw [HB2.out, HN.out]
      rcases h with h | h
      · have h1 := HB1.out
        rw [h] at h1
        by_cases h2 : 1 ≤ n
        · have h3 : ¬ n ≤ 6 := fun h3 => by
            rw [decide_eq_true (by omega), decide_eq_true (by omega)] at h1
            cases h1
          rw [decide_eq_false h3]; simp
        · rw [decide_eq_false h2]; simp
      · rw [h]; simp
    unfold plan
    rw [this]
    rfl
  have HBAD := Lib.hid hbad
  clear hbad
  cases b1 with
  | false =>
    have HNO := HBAD.out (.inl rfl)
    go_wp2_with (first
      | (guard_target =~ wpList _ _ _ (_ :: _) _ _; refine wpList_load rfl 40 (.tmp 5) rfl (.pointer (some ⟨q2, 0, none⟩)) rfl c2 ?_)
      | (go_at_call 24; refine (hin _).mono ?_; clear hin; rintro e w7 ⟨rfl, h7⟩; obtain rfl := h7.symm)
      | (go_at_call 32; refine (rmust_no _ _).mono ?_; rintro e w7 ⟨h7, rfl⟩; obtain rfl := h7.symm)
      | fail)
    have hF := hP
    refine leavesM_cons (f := 30) (args := #[.pointer (some ⟨q5, 0, none⟩), .func (.func 45) #[] #[.pointer (some ⟨q3, 0, none⟩), .pointer (some ⟨q4, 0, none⟩)]]) (by simp) rfl (by simp [go_sem]) ?_; refine (plan_caught _ q3 q4 q5 _ hwF _ _ _ w _ hF.r3 hF.r4 hF.r5 hF.b hq3 hq4 hq5).mono ?_; rintro e u' w'' ⟨rfl, rfl, kQ, cV, cE, hbG⟩; show ∃ v, _ ∧ _; exact ⟨_, results_ccc rfl _ _ q3 q4 q5 27 (hopC noHop) _ (.slice none 0 0) _ rfl rfl rfl kQ Tryz.underlying27 rfl (by rw [hopC_size noHop_wf]; exact infoHop) (loadHopsVar cV) (loadErr cE), HΦ.out _ _ ⟨⟨.slice none 0 0, by rw [HNO], none, 0, by rw [HNO]; rfl, by rw [HNO]; exact Recs.nil _ _ _⟩, hbG⟩⟩
  | true =>
    cases b2 with
    | false =>
      have HNO := HBAD.out (.inr rfl)
      go_wp2_with (first
        | (guard_target =~ wpList _ _ _ (_ :: _) _ _; refine wpList_load rfl 40 (.tmp 5) rfl (.pointer (some ⟨q2, 0, none⟩)) rfl c2 ?_)
        | (go_at_call 24; refine (hin _).mono ?_; clear hin; rintro e w7 ⟨rfl, h7⟩; obtain rfl := h7.symm)
        | (go_at_call 22; refine (hpd _).mono ?_; clear hpd; rintro e w7 ⟨rfl, h7⟩; obtain rfl := h7.symm)
        | (go_at_call 32; refine (rmust_no _ _).mono ?_; rintro e w7 ⟨h7, rfl⟩; obtain rfl := h7.symm)
        | fail)
      have hF := hP
      refine leavesM_cons (f := 30) (args := #[.pointer (some ⟨q5, 0, none⟩), .func (.func 45) #[] #[.pointer (some ⟨q3, 0, none⟩), .pointer (some ⟨q4, 0, none⟩)]]) (by simp) rfl (by simp [go_sem]) ?_; refine (plan_caught _ q3 q4 q5 _ hwF _ _ _ w _ hF.r3 hF.r4 hF.r5 hF.b hq3 hq4 hq5).mono ?_; rintro e u' w'' ⟨rfl, rfl, kQ, cV, cE, hbG⟩; show ∃ v, _ ∧ _; exact ⟨_, results_ccc rfl _ _ q3 q4 q5 27 (hopC noHop) _ (.slice none 0 0) _ rfl rfl rfl kQ Tryz.underlying27 rfl (by rw [hopC_size noHop_wf]; exact infoHop) (loadHopsVar cV) (loadErr cE), HΦ.out _ _ ⟨⟨.slice none 0 0, by rw [HNO], none, 0, by rw [HNO]; rfl, by rw [HNO]; exact Recs.nil _ _ _⟩, hbG⟩⟩
    | true =>
      have hn16 : 1 ≤ n ∧ n ≤ 6 := by
        have := HB1.out
        simp at this
        omega
      go_upto_region 4 with (first
        | (guard_target =~ wpList _ _ _ (_ :: _) _ _; refine wpList_load rfl 40 (.tmp 5) rfl (.pointer (some ⟨q2, 0, none⟩)) rfl c2 ?_)
        | (go_at_call 24; refine (hin _).mono ?_; clear hin; rintro e w7 ⟨rfl, h7⟩; obtain rfl := h7.symm)
        | (go_at_call 22; refine (hpd _).mono ?_; clear hpd; rintro e w7 ⟨rfl, h7⟩; obtain rfl := h7.symm)
        | (go_at_call 32; refine (rmust_ok _ _).mono ?_; rintro e w7 ⟨h7, rfl⟩; obtain rfl := h7.symm)
        | fail)
      clear c0 c1 HB1 HBAD
      go_wp2_with (first
        | (guard_target =~ wpList _ _ _ (_ :: _) _ _; refine wpList_load rfl 40 (.tmp 5) rfl (.pointer (some ⟨q2, 0, none⟩)) rfl c2 ?_)
        | fail)
      go_loopw [9, 29] (fun v t wr => ∃ k : Nat, k ≤ n ∧ t = .int .i64 k ∧ (∀ e ∈ l.take k, okE e = true) ∧ OwnG 42 2 wr w6.heap.size v ((feesOf (l.take k)).map feeL) ∧ PR w q0 q1 q2 q3 q4 q5 a x A n c noHop (.slice none 0 0) 0 wr ∧ Later w6 wr) (fun _ t _ => n - (intOf t).toNat)
      case atStart => exact ⟨0, by omega, rfl, by simp, OwnG.nil _ _ _ _, hP, Later.refl _⟩
      case round =>
        clear hP c2
        obtain ⟨k, hk, rfl, hoks, hown, hP, hL⟩ := hrel
        obtain ⟨Fb, cF, rfl, -, -, -⟩ := hown.slice
        have hfk : ((feesOf (l.take k)).map feeL).length = k := by rw [List.length_map, feesOf, List.length_map, List.length_take, HN.out]; omega
        rw [hfk] at hown ⊢
        by_cases hlt : k < n
        · have hd : decide ((k : Int) < (n : Int)) = true := decide_eq_true (by omega)
          have hd' : decide (k < n) = true := decide_eq_true hlt
          have hkl : k < l.length := by rw [HN.out]; exact hlt
          obtain ⟨b, o, rfl, hcell⟩ := (hA6.later hL).at_ (k := k) (by simpa using hkl)
          rw [List.getElem_map] at hcell
          have hew := HL.out _ (List.getElem_mem hkl)
          obtain ⟨ed, hed⟩ : ∃ e, l[k] = e := ⟨_, rfl⟩
          rw [hed] at hcell hew
          have hld := loadEdgeM hew hcell
          have hix := fun W => idxEdge (b := b) (o := o) (n := n) (c := c) (i := k) W hlt
          obtain ⟨w8, hst, k8, hL8⟩ := newEdge wr hew
          have hP8 := hP.later hL8
          have hown8 := hown.later hL8
          have hLL8 : Later w6 w8 := hL.step hL8
          have cd : w8.cell? ⟨wr.heap.size, 66, none⟩ = some (.int .i64 ed.delta) := (k8.cell 66).trans (edgeC_num hew).2.2
          have hHED := Lib.hid hed
          have hHOK := Lib.hid hoks
          clear hcell hed hoks hown
          go_upto_region 7 with (first
            | (guard_target =~ wpList _ _ _ (_ :: _) _ _; refine wpList_idx rfl 40 _ _ rfl (.slice (some ⟨b, o, none⟩) n c) (.int .i64 (k : Int)) rfl rfl (hix _) ?_)
            | (guard_target =~ wpList _ _ _ (_ :: _) _ _; refine wpList_load rfl 44 (.tmp 31) rfl (.pointer (some ⟨b, o + k * 67, none⟩)) rfl hld ?_)
            | (with_reducible refine wpList_alloc rfl 44 rfl (allocEdge _) ?_)
            | (guard_target =~ wpList _ _ _ (_ :: _) _ _; refine wpList_store rfl 44 (.tmp 11) (.tmp 32) rfl (.pointer (some ⟨wr.heap.size, 0, none⟩)) (.agg (edgeC ed)) rfl rfl hst ?_)
            | fail)
          obtain ⟨g, hg⟩ : ∃ g, g = wr.heap.size := ⟨_, rfl⟩
          rw [← hg] at k8 cd ⊢
          have hgw : w6.heap.size ≤ g := by have := hL.size; omega
          have hg8 : g < w8.heap.size := k8.lt
          clear hst hix hld hg
          have hind := fun W => rin_i64 ed.delta 0 1000 W
          have htk := fun W => take_fee ed.base ed.rate 0 W
          rw [takeS_zero] at htk
          have hokE : okE ed = ((decide (0 ≤ ed.delta) && decide (ed.delta ≤ 1000)) && rightF (ed.base, ed.rate)) := rfl
          have hnot : okE ed = false → plan a x l = (noHop, [], 2) := fun h => by
            have : okPlan a x l = false := by
              unfold okPlan
              have : l.all okE = false := by
                rw [List.all_eq_false]
                exact ⟨ed, by rw [← hHED.out]; exact List.getElem_mem hkl, by rw [h]; simp⟩
              rw [this]; simp
            unfold plan
            rw [this]
            rfl
          have HNOT := Lib.hid hnot
          clear hnot
          obtain ⟨d1, hd1⟩ : ∃ b, (decide (0 ≤ ed.delta) && decide (ed.delta ≤ 1000)) = b := ⟨_, rfl⟩
          obtain ⟨d2, hd2⟩ : ∃ b, rightF (ed.base, ed.rate) = b := ⟨_, rfl⟩
          rw [hd1] at hind hokE
          rw [hd2] at htk hokE
          clear hd1 hd2
          cases d1 with
          | false =>
            have HNO := HNOT.out hokE
            go_wp2_with (first
              | (go_at_call 46; refine (hind _).mono ?_; clear hind; rintro e w7 ⟨rfl, h7⟩; obtain rfl := h7.symm)
              | (go_at_call 32; refine (rmust_no _ _).mono ?_; rintro e w7 ⟨h7, rfl⟩; obtain rfl := h7.symm)
              | fail)
            have hF := hP8
            refine leavesM_cons (f := 30) (args := #[.pointer (some ⟨q5, 0, none⟩), .func (.func 45) #[] #[.pointer (some ⟨q3, 0, none⟩), .pointer (some ⟨q4, 0, none⟩)]]) (by simp) rfl (by simp [go_sem]) ?_; refine (plan_caught _ q3 q4 q5 _ hwF _ _ _ w _ hF.r3 hF.r4 hF.r5 hF.b hq3 hq4 hq5).mono ?_; rintro e u' w'' ⟨rfl, rfl, kQ, cV, cE, hbG⟩; show ∃ v, _ ∧ _; exact ⟨_, results_ccc rfl _ _ q3 q4 q5 27 (hopC noHop) _ (.slice none 0 0) _ rfl rfl rfl kQ Tryz.underlying27 rfl (by rw [hopC_size noHop_wf]; exact infoHop) (loadHopsVar cV) (loadErr cE), HΦ.out _ _ ⟨⟨.slice none 0 0, by rw [HNO], none, 0, by rw [HNO]; rfl, by rw [HNO]; exact Recs.nil _ _ _⟩, hbG⟩⟩
          | true =>
            have hlf := run_load_fee (w := w8) (b := g) (o := 64) ((k8.cell 64).trans (edgeC_num hew).1) ((k8.cell 65).trans (edgeC_num hew).2.1)
            go_upto_region 8 with (first
              | (go_at_call 46; refine (hind _).mono ?_; clear hind; rintro e w7 ⟨rfl, h7⟩; obtain rfl := h7.symm)
              | (go_at_call 32; refine (rmust_ok _ _).mono ?_; rintro e w7 ⟨h7, rfl⟩; obtain rfl := h7.symm)
              | fail)
            have hLA := below_new w8 (.cells #[.int .i64 ed.base, .int .i64 ed.rate] 42)
            have hownA := hown8.later hLA
            have hPA := hP8.later hLA
            have kA := k8.later hLA
            have hLLA : Later w6 (w8.alloc (.cells #[.int .i64 ed.base, .int .i64 ed.rate] 42)) := hLL8.step hLA
            have hrec : Recs 2 (w8.alloc (.cells #[.int .i64 ed.base, .int .i64 ed.rate] 42)) (some ⟨w8.heap.size, 0, none⟩) [feeL (ed.base, ed.rate)] :=
              Recs.row (Row.new w8 42 _) (fun l hl => by rw [List.mem_singleton.1 hl]; exact (feeL_ok _).1) (fun j v hv => by simpa [feeL] using hv)
            have hbf := buildFee1 ed.base ed.rate w8
            have hszA : w6.heap.size ≤ (w8.alloc (.cells #[.int .i64 ed.base, .int .i64 ed.rate] 42)).heap.size := hLLA.size
            have hfl : ((feesOf (l.take k)).map feeL).length + 1 ≤ 1000000000 := by
              rw [hfk]
              omega
            clear hown8 hP8 k8 hLA hLL8
            go_upto_region 9 with (first
              | (guard_target =~ wpList _ _ _ (_ :: _) _ _; refine wpList_load rfl 42 (.tmp 38) rfl (.pointer (some ⟨g, 64, none⟩)) rfl hlf ?_)
              | (refine wpList_buildSl rfl 97 1 _ rfl #[(0, feeV ed.base ed.rate)] rfl hbf ?_)
              | (guard_target =~ wpList _ _ _ (_ :: _) _ _; refine wpList_append_g Tryz.underlying97 infoFeeF rfl (by decide) (by decide) rfl (.tmp 37) (.tmp 40) rfl w6.heap.size _ _ rfl hownA (some ⟨w8.heap.size, 0, none⟩) 1 1 [feeL (ed.base, ed.rate)] (fun l hl => by rw [List.mem_singleton.1 hl]; exact feeL_ok _) rfl rfl hrec (by simp) hfl hszA fun v9 w9 hown9 hg9 _ => ?_)
              | fail)
            have hne9 : ∀ j, (Value.slice Fb k cF).ownBlock = some j → w6.heap.size ≤ j ∧ j ≠ g := fun j e => by
              obtain ⟨cs, hcs⟩ := hownA.type e
              exact ⟨(hownA.at_ j e).1, (ne_rows hcs kA (by decide))⟩
            have hP9 := hPA.grown hg9 (fun j e => by have := (hne9 j e).1; have := hP.b.size; have := hb0.size; omega)
            have hLL9 : Later w6 w9 := Below.grown hLLA hg9 hszA (fun j e => (hne9 j e).1)
            have k9 := kA.grown hg9 (fun e => (hne9 g e.symm).2 rfl)
            have hlf9 := run_load_fee (w := w9) (b := g) (o := 64) ((k9.cell 64).trans (edgeC_num hew).1) ((k9.cell 65).trans (edgeC_num hew).2.1)
            clear hownA hPA kA hLLA hrec hbf hszA hlf hg9 hne9 hP
            cases d2 with
            | false =>
              have HNO := HNOT.out hokE
              go_wp2_with (first
                | (guard_target =~ wpList _ _ _ (_ :: _) _ _; refine wpList_load rfl 42 (.tmp 43) rfl (.pointer (some ⟨g, 64, none⟩)) rfl hlf9 ?_)
                | (go_at_call 47; refine (htk _).mono ?_; clear htk; rintro e w10 ⟨rfl, hL10⟩)
                | (go_at_call 32; refine (rmust_no _ _).mono ?_; rintro e w7 ⟨h7, rfl⟩; obtain rfl := h7.symm)
                | fail)
              have hF := hP9.later hL10
              refine leavesM_cons (f := 30) (args := #[.pointer (some ⟨q5, 0, none⟩), .func (.func 45) #[] #[.pointer (some ⟨q3, 0, none⟩), .pointer (some ⟨q4, 0, none⟩)]]) (by simp) rfl (by simp [go_sem]) ?_; refine (plan_caught _ q3 q4 q5 _ hwF _ _ _ w _ hF.r3 hF.r4 hF.r5 hF.b hq3 hq4 hq5).mono ?_; rintro e u' w'' ⟨rfl, rfl, kQ, cV, cE, hbG⟩; show ∃ v, _ ∧ _; exact ⟨_, results_ccc rfl _ _ q3 q4 q5 27 (hopC noHop) _ (.slice none 0 0) _ rfl rfl rfl kQ Tryz.underlying27 rfl (by rw [hopC_size noHop_wf]; exact infoHop) (loadHopsVar cV) (loadErr cE), HΦ.out _ _ ⟨⟨.slice none 0 0, by rw [HNO], none, 0, by rw [HNO]; rfl, by rw [HNO]; exact Recs.nil _ _ _⟩, hbG⟩⟩
            | true =>
              go_wp2_with (first
                | (guard_target =~ wpList _ _ _ (_ :: _) _ _; refine wpList_load rfl 42 (.tmp 43) rfl (.pointer (some ⟨g, 64, none⟩)) rfl hlf9 ?_)
                | (go_at_call 47; refine (htk _).mono ?_; clear htk; rintro e w10 ⟨rfl, hL10⟩)
                | (go_at_call 32; refine (rmust_ok _ _).mono ?_; rintro e w7 ⟨h7, rfl⟩; obtain rfl := h7.symm)
                | fail)
              go_roundw
              case rel =>
                refine ⟨k + 1, by omega, by go_num, ?_, ?_, hP9.later hL10, hLL9.step hL10⟩
                · intro e he
                  rw [List.take_add_one, List.getElem?_eq_getElem hkl, hHED.out] at he
                  rcases List.mem_append.1 he with h | h
                  · exact hHOK.out e h
                  · simp at h
                    subst h
                    exact hokE
                · rw [show (feesOf (l.take (k + 1))).map feeL = (feesOf (l.take k)).map feeL ++ [feeL (ed.base, ed.rate)] by
                    rw [List.take_add_one, List.getElem?_eq_getElem hkl, hHED.out]
                    simp [feesOf]]
                  exact hown9.later hL10
              case measure => simp [intOf]; omega
        · obtain rfl : k = n := by omega
          have hd : decide ((k : Int) < (k : Int)) = false := decide_eq_false (by omega)
          have hd' : decide (k < k) = false := decide_eq_false (by omega)
          have hall : l.all okE = true := by
            rw [List.all_eq_true]
            intro e he
            exact hoks e (by rw [List.take_of_length_le (by rw [HN.out]; exact Nat.le_refl _)]; exact he)
          have hok : okPlan a x l = true := by
            unfold okPlan
            rw [HB2.out, hall, HN.out, decide_eq_true hn16.1, decide_eq_true hn16.2]
            rfl
          obtain ⟨_, _, eF, hcF, _, hrF⟩ := hown.slice
          rw [hfk] at eF hcF
          injection eF with eF1 _ eF3
          subst eF1 eF3
          obtain ⟨D, hsl, hDr⟩ := slice_fees (A := Fb) (n := k) (ca := cF) hn16.1 hcF
          have hrF2 : RdV wr D (feesC (feesOf l).tail) := by
            refine hDr wr (feesOf l) (by rw [feesOf, List.length_map, HN.out]) ?_
            rw [List.take_of_length_le (by rw [HN.out]; exact Nat.le_refl _)] at hrF
            rw [feesC_eq]
            exact Recs.rdv (by decide) hrF (fun l hl => by obtain ⟨f, _, rfl⟩ := List.mem_map.1 hl; exact (feeL_ok f).1)
          have hft : (feesOf l).tail = feesOf l.tail := by unfold feesOf; rw [List.map_tail]
          rw [hft] at hrF2
          have hroute := fun W (h : Later wr W) => route_fresh a D (k - 1) (cF - 1) (feesOf l.tail) W (by rw [feesOf, List.length_map, List.length_tail, HN.out]) (by omega) (hrF2.later h)
          obtain ⟨R, hR⟩ : ∃ R, routeS a (feesOf l.tail) = R := ⟨_, rfl⟩
          obtain ⟨S, er⟩ := R
          rw [hR] at hroute
          obtain ⟨m, hm⟩ : ∃ m, S.length = m := ⟨_, rfl⟩
          simp only [hm] at hroute
          have c0L : ∀ W, Later wr W → W.cell? ⟨q0, 0, none⟩ = some (.int .i64 a) := fun W h => ((hP.r0.later h).cell 0).trans rfl
          have HRT := Lib.hid hR
          have HM := Lib.hid hm
          have HOK := Lib.hid hok
          clear hR hm hok hall hoks hrF hrF2 hDr hown hcF hft
          have hL6 := hL
          go_upto_region 12 with fail
          refine (wpIn_wide (n := 12)).1 ?_
          refine wpIn_region_put wide_wide [Pr.eq (.int .i64 a), Pr.eq (.slice Fb k cF), Pr.eq (.slice D (k - 1) (cF - 1)), Pr.sent wr.heap.size m er S, Pr.sent wr.heap.size m er S, Pr.nsl wr.heap.size m S, Pr.eq (.int .i64 er), Pr.newT wr.heap.size 101 oneSl, Pr.any] 7 8 101 oneSl (fun cs W => ∃ B c', cs = #[.slice B m c'] ∧ NumsAt wr.heap.size S B W) (fun cs W W' ⟨B, c', e, h⟩ hL => ⟨B, c', e, h.later hL⟩) rfl rfl ⟨putOk_eq, putOk_eq, putOk_eq, (by first | exact putOk_sent | exact putOk_nsl), (by first | exact putOk_sent | exact putOk_nsl), (by first | exact putOk_sent | exact putOk_nsl), putOk_eq, putOk_new, putOk_any, trivial⟩ (by kernel_rfl) (by kernel_rfl) (by kernel_rfl) (by kernel_rfl) (by kernel_rfl) (by kernel_rfl) rfl (by decide) (by kernel_rfl) ⟨?_, ?_, ?_, ?_, ?_, ?_, ?_, ?_, ?_, trivial⟩ ?_
          · exact putStep_val (by decide) fun ac W hL he => stepOk_want rfl (op_load rfl (he.keep (.tmp 3) (by kernel_rfl)) (ldI64 (c0L W hL)) rfl)
          · exact putStep_val (by decide) fun ac W hL he => stepOk_want rfl (op_move rfl (he.keep (.tmp 9) (by kernel_rfl)))
          · exact putStep_val (by decide) fun ac W hL he => stepOk_want rfl (op_slice (W' := W) rfl (he.get 1 54 (by kernel_rfl) rfl) (congrArg some rfl) (rfl : _ = none) rfl (hsl W) rfl)
          · refine putStep_val (by decide) fun ac W hL he => ?_; refine stepOk_want rfl ?_; have e53 : ac.eval (.tmp 53) = .int .i64 a := he.get 0 53 (by kernel_rfl) rfl; have e55 : ac.eval (.tmp 55) = .slice D (k - 1) (cF - 1) := he.get 2 55 (by kernel_rfl) rfl; exact op_callF (vs := #[.int .i64 a, .slice D (k - 1) (cF - 1)]) rfl (by simp only [List.map_toArray, List.map_cons, List.map_nil, e53, e55]) (enters_of Tryz.func48 (by kernel_rfl) rfl) ((hroute W hL).mono fun e W' ⟨⟨v, he', B, c', hv, hr, hf⟩, hb⟩ => ⟨_, he', hb, B, c', by rw [hv], hr, fun b o e => Nat.le_trans hL.size (hf b o e)⟩)
          · exact putStep_val (by decide) fun ac W hL he => stepOk_want rfl (op_move rfl (he.get 3 56 (by kernel_rfl) rfl))
          · refine putStep_val (by decide) fun ac W hL he => ?_; refine stepOk_want rfl ?_; obtain ⟨B, c', e52, hr⟩ : ∃ B c', ac.eval (.tmp 52) = .tuple #[.slice B m c', .int .i64 er] ∧ NumsAt wr.heap.size S B W := he.get 4 52 (by kernel_rfl) rfl; exact op_extract rfl e52 rfl ⟨B, c', rfl, hr⟩
          · refine putStep_val (by decide) fun ac W hL he => ?_; refine stepOk_want rfl ?_; obtain ⟨B, c', e52, hr⟩ : ∃ B c', ac.eval (.tmp 52) = .tuple #[.slice B m c', .int .i64 er] ∧ NumsAt wr.heap.size S B W := he.get 4 52 (by kernel_rfl) rfl; exact op_extract rfl e52 rfl rfl
          · exact putStep_val (by decide) fun ac W hL he => stepOk_want rfl (op_alloc rfl (allocInts W) (below_new W _) ⟨W.heap.size, _, rfl, hL.size, ⟨none, 0, 0, rfl⟩, Row.new W _ _⟩)
          · refine putStep_put (.tmp 57) 14 rfl rfl rfl rfl (by kernel_rfl) fun ac W g cs hL he hg hz hr => ?_; have ey := (he.get 5 57 (by kernel_rfl) rfl); obtain ⟨B, c', e57, hrB⟩ : ∃ B c', ac.eval (.tmp 57) = .slice B m c' ∧ NumsAt wr.heap.size S B W := ey; rw [e57]; obtain ⟨A1, n1, c1, rfl⟩ := hz; have hr1 := hr.set 0 (.slice B m c'); have hgr := grown_set W g 0 (.slice B m c'); exact ⟨_, _, storeInts1 ⟨A1, n1, c1, rfl⟩ hr, hr1, ⟨B, m, c', rfl⟩, hgr, B, c', rfl, hrB.1.put1 ⟨g, _, _, hg, ⟨A1, n1, c1, rfl⟩, ⟨B, m, c', rfl⟩, hr, hr1, hgr⟩, hrB.2⟩
          intro xs W hL hx hput hk hget
          obtain ⟨g14, cs14, e14, hg14, k14, B, c', rfl, hrd⟩ := hput
          have v6 : xs 6 = .int .i64 er := hx 6 (by decide)
          have e8 := (hk (.tmp 8) (by kernel_rfl)).trans (rfl : _ = Value.pointer (some ⟨q5, 0, none⟩))
          have e58 := (hget 6 58 (by decide) rfl).trans v6
          have hP14 := hP.later hL
          have hL14 : Later w6 W := hL6.step hL
          refine last_store rfl rfl e8 e58 (storeErr1 hP14.r5) ?_
          simp only [initL, putL, Nat.reduceAdd, Act.put, List.setIfInBounds_toArray, List.set_cons_succ, List.set_cons_zero]
          rw [e14]
          have hd5 : q5 < w6.heap.size := hqw.2.2.2.2.2
          have hszW := hL14.size
          have hg14' : w6.heap.size ≤ g14 := Nat.le_trans hL6.size hg14
          have hgr5 := grown_set W q5 0 (.int .i64 er)
          have hPS : PR w q0 q1 q2 q3 q4 q5 a x A k c noHop (.slice none 0 0) er (W.setCell ⟨q5, 0, none⟩ (.int .i64 er)) :=
            ⟨hP14.r0.far (p := ⟨q5, 0, none⟩) (ne_rows hP14.r0 hP14.r5 (by decide)) _, hP14.r1.far (p := ⟨q5, 0, none⟩) (ne_rows hP14.r1 hP14.r5 (by decide)) _, hP14.r2.far (p := ⟨q5, 0, none⟩) (ne_rows hP14.r2 hP14.r5 (by decide)) _, hP14.r3.far (p := ⟨q5, 0, none⟩) (ne_rows hP14.r3 hP14.r5 (by decide)) _, hP14.r4.far (p := ⟨q5, 0, none⟩) (ne_rows hP14.r4 hP14.r5 (by decide)) _, hP14.r5.set 0 _, hP14.b.setCell (p := ⟨q5, 0, none⟩) hq5 _⟩
          have k14S := k14.far (p := ⟨q5, 0, none⟩) (by show g14 ≠ q5; omega) (.int .i64 er)
          have hrdS : NumsAt w6.heap.size S B (W.setCell ⟨q5, 0, none⟩ (.int .i64 er)) :=
            ⟨hrd.1.same (Same.set W ⟨q5, 0, none⟩ _) (fun b o e _ _ => by have := hrd.2 b o e; have := hL6.size; show b ≠ q5; omega), fun b o e => Nat.le_trans hL6.size (hrd.2 b o e)⟩
          have c5 : (W.setCell ⟨q5, 0, none⟩ (.int .i64 er)).cell? ⟨q5, 0, none⟩ = some (.int .i64 er) := (hPS.r5.cell 0).trans rfl
          have hszS : w6.heap.size ≤ (W.setCell ⟨q5, 0, none⟩ (.int .i64 er)).heap.size := by rw [show (W.setCell ⟨q5, 0, none⟩ (.int .i64 er)).heap.size = W.heap.size by simp [World.setCell]]; exact hszW
          clear hx hk hget e8 e58 v6 hP14
          generalize W.setCell ⟨q5, 0, none⟩ (.int .i64 er) = WS at *
          by_cases her : er = 0
          · subst her
            have hmk := makeHops k hn16.2
            have c2S := loadEdges ((hPS.r2.cell 0).trans rfl)
            have c4S : WS.cell? ⟨q4, 0, none⟩ = some (.slice none 0 0) := (hPS.r4.cell 0).trans rfl
            have hm : m = k := by
              have h1 := routeS_len (a := a) (fs := feesOf l.tail) (by rw [HRT.out])
              rw [HRT.out] at h1
              simp only at h1
              rw [HM.out] at h1
              rw [h1, feesOf, List.length_map, List.length_tail, HN.out]
              omega
            subst hm
            have hgs : w6.heap.size ≤ WS.heap.size := hszS
            have gst0 := Row.new WS 27 (List.replicate m (hopL noHop)).flatten.toArray
            have LT := below_new WS (.cells (List.replicate m (hopL noHop)).flatten.toArray 27)
            obtain ⟨gst, hgst⟩ : ∃ g, g = WS.heap.size := ⟨_, rfl⟩
            have hSne0 : S ≠ [] := fun e => by have := HM.out; rw [e] at this; simp at this; omega
            have hBg : ∀ b o, B = some ⟨b, o, none⟩ → b < gst := fun b o e => by
              subst e
              obtain ⟨b', o', e', hc'⟩ := hrdS.1 (by simpa using hSne0)
              injection e' with e'
              injection e' with e1 e2
              subst e1
              rw [hgst]
              exact block_lt_of_cell (hc' 0 (by simpa using List.length_pos_iff.2 hSne0))
            rw [← hgst] at gst0
            have hPT := hPS.later LT
            have k14T := k14S.later LT
            have nT := hrdS.later LT
            have hmk1 := hmk WS
            rw [← hgst] at hmk1
            clear hmk
            have cT4 : (WS.alloc (.cells (List.replicate m (hopL noHop)).flatten.toArray 27)).cell? ⟨q4, 0, none⟩ = some (.slice none 0 0) := (hPT.r4.cell 0).trans rfl
            have fT4 := hPT.r4.frozen 0
            have hbk := fun W => backE_any A m c W
            have cU2 : ∀ X v, PR w q0 q1 q2 q3 q4 q5 a x A m c noHop v 0 X → (Instr.loadAt 40 (.pointer (some ⟨q2, 0, none⟩))).run Tryz.prog X = .ok (.slice A m c) X := fun X v h => loadEdges ((h.r2.cell 0).trans rfl)
            generalize WS.alloc (.cells (List.replicate m (hopL noHop)).flatten.toArray 27) = WT at *
            have hPU : PR w q0 q1 q2 q3 q4 q5 a x A m c noHop (.slice (some ⟨gst, 0, none⟩) m m) 0 (WT.setCell ⟨q4, 0, none⟩ (.slice (some ⟨gst, 0, none⟩) m m)) :=
              ⟨hPT.r0.far (p := ⟨q4, 0, none⟩) (ne_rows hPT.r0 hPT.r4 (by decide)) _, hPT.r1.far (p := ⟨q4, 0, none⟩) (ne_rows hPT.r1 hPT.r4 (by decide)) _, hPT.r2.far (p := ⟨q4, 0, none⟩) (ne_rows hPT.r2 hPT.r4 (by decide)) _, hPT.r3.far (p := ⟨q4, 0, none⟩) (ne_rows hPT.r3 hPT.r4 (by decide)) _, hPT.r4.set 0 _, hPT.r5.far (p := ⟨q4, 0, none⟩) (ne_rows hPT.r5 hPT.r4 (by decide)) _, hPT.b.setCell (p := ⟨q4, 0, none⟩) hq4 _⟩
            have hgsz : w6.heap.size ≤ gst := by omega
            clear hgst hgs hszS
            go_upto_region 15 with (first
              | (go_at_call 32; refine (rmust_ok _ _).mono ?_; rintro e w7 ⟨h7, rfl⟩; obtain rfl := h7.symm)
              | (guard_target =~ wpList _ _ _ (_ :: _) _ _; refine wpList_load rfl 40 (.tmp 5) rfl (.pointer (some ⟨q2, 0, none⟩)) rfl c2S ?_)
              | fail)
            have gstU := gst0.far (p := ⟨q4, 0, none⟩) (by show gst ≠ q4; omega) (.slice (some ⟨gst, 0, none⟩) m m)
            have k14U := k14T.far (p := ⟨q4, 0, none⟩) (by show g14 ≠ q4; omega) (.slice (some ⟨gst, 0, none⟩) m m)
            have nU : NumsAt w6.heap.size S B (WT.setCell ⟨q4, 0, none⟩ (.slice (some ⟨gst, 0, none⟩) m m)) :=
              ⟨nT.1.same (Same.set WT ⟨q4, 0, none⟩ _) (fun b o e _ _ => by have := nT.2 b o e; show b ≠ q4; omega), nT.2⟩
            clear hPT k14T nT gst0 hPS k14S hrdS hmk1 cT4 fT4 LT c2S c5
            generalize WT.setCell ⟨q4, 0, none⟩ (.slice (some ⟨gst, 0, none⟩) m m) = WU at *
            have c2U := cU2 WU _ hPU
            have hLB := below_new WU (.cells #[.slice A m c] 40)
            have gbB := Row.new WU 40 #[.slice A m c]
            have hPB := hPU.later hLB
            have gstB := gstU.later hLB
            have k14B := k14U.later hLB
            have nB := nU.later hLB
            have hgbk := hbk WU
            have hUw : w.heap.size ≤ WU.heap.size := hPU.b.size
            have hqU : q0 < WU.heap.size ∧ q1 < WU.heap.size ∧ q2 < WU.heap.size ∧ q3 < WU.heap.size ∧ q4 < WU.heap.size ∧ q5 < WU.heap.size := ⟨hPU.r0.lt, hPU.r1.lt, hPU.r2.lt, hPU.r3.lt, hPU.r4.lt, hPU.r5.lt⟩
            have hsU := k14U.lt
            have hsU2 := gstU.lt
            go_wp2_with (first
              | (guard_target =~ wpList _ _ _ (_ :: _) _ _; refine wpList_load rfl 40 (.tmp 5) rfl (.pointer (some ⟨q2, 0, none⟩)) rfl c2U ?_)
              | (go_at_call 49; refine hgbk.mono ?_; clear hgbk; rintro e w7 ⟨rfl, h7⟩; obtain rfl := h7)
              | fail)
            refine (wpIn_wide (n := 12)).1 ?_
            obtain ⟨gb, hgb⟩ : ∃ g, g = WU.heap.size := ⟨_, rfl⟩
            have hszB : (WU.alloc (.cells #[.slice A m c] 40)).heap.size = gb + 1 := by rw [World.size_alloc, hgb]
            rw [← hgb] at gbB hqU hsU hsU2 ⊢
            have hUb : w6.heap.size ≤ gb := by omega
            have hwg : w.heap.size ≤ gb := by omega
            clear hgb c2U cU2 hbk hLB hPU gstU k14U nU
            generalize WU.alloc (.cells #[.slice A m c] 40) = WB at *
            have hnB : ∀ b o, B = some ⟨b, o, none⟩ → S ≠ [] → b < WB.heap.size ∧ w6.heap.size ≤ b := fun b o e hne => by
              subst e
              obtain ⟨b', o', e', hc'⟩ := nB.1 (by simpa using hne)
              injection e' with e'
              injection e' with e1 e2
              subst e1
              exact ⟨block_lt_of_cell (hc' 0 (by simpa using List.length_pos_iff.2 hne)), nB.2 _ _ rfl⟩
            have hAb : ∀ b o, A = some ⟨b, o, none⟩ → b < w.heap.size := fun b o e => by
              subst e
              obtain ⟨b', o', e', hc'⟩ := HA.out.at_ (k := 0) (by rw [List.length_map, HN.out]; omega)
              injection e' with e'
              injection e' with e1 e2
              subst e1
              rw [List.getElem_map] at hc'
              have h0 := hc' 64 (.int .i64 (l[0]'(by rw [HN.out]; omega)).base) (by rw [Array.getElem?_toList]; exact (edgeC_num (HL.out _ (List.getElem_mem _))).1)
              exact block_lt_of_cell h0
            have hseq := backE1_seq l HL.out gb A m c WB 11 (by omega) (fun b => b = q3 ∨ b = gst ∨ b = WB.heap.size + 1) (by omega) (fun b o e => by have := hAb b o e; omega) HN.out (by omega) (HA.out.below hPB.b) gbB
            have HS := Lib.hid hseq
            have HLT : Hid (q0 < WB.heap.size ∧ q1 < WB.heap.size ∧ q2 < WB.heap.size ∧ q3 < WB.heap.size ∧ q4 < WB.heap.size ∧ q5 < WB.heap.size) := Lib.hid (by omega)
            have hSne : S ≠ [] := fun e => by have := HM.out; rw [e] at this; simp at this; omega
            have hPJ0 : PJ w q0 q1 q2 q3 q4 q5 g14 gst a x A m c l S B c' 0 WB := ⟨hPB, k14B, by simpa [stL] using gstB, nB.1⟩
            have HPJ0 := Lib.hid hPJ0
            have HNB := Lib.hid hnB
            have hplan : plan a x l = (firstAt x S l 0, (List.range l.length).map (stepAt a x S l), 0) := by
              unfold plan
              rw [if_pos HOK.out, HRT.out, if_pos rfl, if_pos (HNO0.out HOK.out (by rw [HRT.out]))]
            have HPLAN := Lib.hid hplan
            have hno1 : expAt x l 0 ≤ 2147483647 := HNO0.out HOK.out (by rw [HRT.out])
            have hallE : l.all okE = true := by
              have := HOK.out
              unfold okPlan at this
              simp only [Bool.and_eq_true] at this
              exact this.2
            have hpx : 1 ≤ x ∧ x ≤ 2147483647 := by
              have := HB2.out
              unfold paid at this
              simp only [Bool.and_eq_true, decide_eq_true_eq] at this
              exact this.2
            clear hseq hPJ0 hnB hplan hPB k14B gstB nB gbB
            refine wpIn_name fun T0 hT0 => ?_
            refine wpIn_range_W (α := Int × Rt.Edge) (Kp := fun _ => KeepB (fun b => b = q3 ∨ b = gst ∨ b = WB.heap.size + 1)) rfl (by omega) (gf := 100) (lb := #[.pointer (some ⟨gb, 0, none⟩)]) (by rw [hT0]; rfl) trivial (enters_of Tryz.func100 (by kernel_rfl) rfl)
              HS.out (fun r h => h.elim) (fun h k => h.trans k) (fun x W o => KeepB.put W o (.inr (.inr rfl))) (Below.refl _ _) (fun _ => rfl)
              (fun pre X => pre.length ≤ m ∧ PJ w q0 q1 q2 q3 q4 q5 g14 gst a x A m c l S B c' pre.length X)
              (fun c _ X => False)
              (fun pre X Y ⟨h1, h2⟩ hs => ⟨h1, h2.same hs HLT.out (by omega) (by omega) (by omega) (fun b o e => (HNB.out b o e hSne).1)⟩)
              (fun c pre X Y h _ => h)
              ⟨by simp, HPJ0.out⟩
              (fun pre x a' X => ∃ q16, a' = { tmps := ((((T0.setIfInBounds 68 (.int .i64 x.1)).setIfInBounds 69 (.agg (edgeC x.2))).setIfInBounds 15 (.int .i64 x.1)).setIfInBounds 16 (.pointer (some ⟨q16, 0, none⟩))), defers := [] } ∧ (pre.length < m ∧ x = bAt l pre.length) ∧ Row X q16 44 (edgeC x.2) ∧ WB.heap.size + 2 ≤ q16)
              (fun pre x a' X o ⟨gt, h1, h2, h3, h4⟩ => ⟨gt, h1, h2, (World.putObj_heap_other (by omega)).trans h3, h4⟩) ?assign ?body ?done ?stop
            case assign =>
              intro l0 pre x X K hXs hi hok2 hK
              have hxw : x.2.wf := by rw [hok2.2]; exact bAt_wf HL.out _
              obtain ⟨w9, hst, k9, hL9⟩ := newEdge X hxw
              have HK := Lib.hid hK
              have HI := Lib.hid hi
              have HOK2 := Lib.hid hok2
              clear hK hi hok2
              have e89 : ((#[68, 69] : Array Tmp).zip (bE x)).foldl (fun t (p, v) => t.setIfInBounds p v) T0 = (T0.setIfInBounds 68 (.int .i64 x.1)).setIfInBounds 69 (.agg (edgeC x.2)) := by simp
              rw [e89, hT0]
              clear e89
              simp only [List.setIfInBounds_toArray, List.set_cons_succ, List.set_cons_zero]
              gi_wp2_with (first
                | (refine wpListIn_allocG rfl 44 rfl (allocEdge _) ?_)
                | (refine wpListIn_storeG rfl 44 (.tmp 16) (.tmp 69) rfl (.pointer (some ⟨X.heap.size, 0, none⟩)) (.agg (edgeC x.2)) rfl rfl hst ?_)
                | fail)
              obtain ⟨i1, i2⟩ := HI.out
              exact HK.out _ _ (KeepsFrom.of_later hL9) (KeepB.later hL9) ⟨i1, i2.same ((Same.of_below hL9).mono fun k hk => by have := hk.1; omega) HLT.out (by omega) (by omega) (by omega) (fun b o e => (HNB.out b o e hSne).1)⟩ ⟨X.heap.size, by rw [hT0]; rfl, HOK2.out, k9, hXs⟩
            case body =>
              rintro l0 pre x' a' X hl0 hlo hXs ⟨hple, hPJ⟩ ⟨q16, rfl, ⟨hlt, hx'⟩, hr16, hq16⟩
              obtain ⟨j, hj⟩ : ∃ j, pre.length = j := ⟨_, rfl⟩
              rw [hj] at hPJ hlt hx' hple
              obtain ⟨i, hij⟩ : ∃ i, i + 1 + j = m := ⟨m - 1 - j, by omega⟩
              have hil : i < l.length := by rw [HN.out]; omega
              have hxe : x' = ((i : Int), l[i]) := by
                rw [hx']
                unfold bAt
                rw [HN.out, show m - 1 - j = i by omega, getD_lt hil]
              obtain ⟨ed, hed⟩ : ∃ e, l[i] = e := ⟨_, rfl⟩
              rw [hed] at hxe
              subst hxe
              have hst := hPJ.st
              rw [st_open hij] at hst
              have hplen : (pre ++ [((i : Int), ed)]).length = j + 1 := by rw [List.length_append, hj]; rfl
              have hiv := fun Y (hY : Row Y gst 27 (stRow i (hopL (stepAt a x S l i)) (stL a x S l j))) => show Row Y gst _ _ from (st_shut (a := a) (x := x) (S := S) (l := l) HN.out hij) ▸ hY
              have hap : Apart w q0 q1 q2 q3 q4 q5 g14 gst q16 B := by
                refine ⟨⟨by omega, hq3⟩, ⟨by omega, by omega, by omega, by omega, by omega, by omega, ?_, by omega⟩, ⟨ne_rows hPJ.pr.r0 hPJ.pr.r3 (by decide), ne_rows hPJ.pr.r1 hPJ.pr.r3 (by decide), ne_rows hPJ.pr.r2 hPJ.pr.r3 (by decide), ne_rows hPJ.pr.r4 hPJ.pr.r3 (by decide), ne_rows hPJ.pr.r5 hPJ.pr.r3 (by decide), ne_rows hPJ.k14 hPJ.pr.r3 (by decide), by omega⟩, fun b o e => ?_⟩
                · exact ne_rows hPJ.k14 hPJ.st (by decide)
                · have := HNB.out b o e hSne
                  have hbg := hBg b o e
                  exact ⟨by omega, by omega⟩
              rw [hT0]
              simp only [List.setIfInBounds_toArray, List.set_cons_succ, List.set_cons_zero]
              refine plan_round _ (by kernel_rfl) w q0 q1 q2 q3 q4 q5 g14 gst q16 a x A m c l S B c' j i l0 _ X ed (by rw [List.getElem?_eq_getElem hil, hed]) HL.out HN.out hij hn16.2 HM.out hallE hpx hap (fun Y hY => HA.out.below hY) ⟨hPJ.pr, hPJ.k14, hPJ.nums, hr16⟩ hst _ (fun _ a' Y hRQ hR hK => ?_) (fun hov => absurd (Int.le_trans (expAt_le x l hallE i) hno1) hov) _ _ _ _ _ _ _ _ _ _ _ _ _ _ _ _ _ _ _ _ _ _ _ _ _ _ _ _ _ _ _ _ _ _ _ _ _ _ _ _ _ _ _ _ _ _ _ _ _ _ _ _ _ _ _ _ _ _ _ _ _ _ _ _ _ _ _ _ _ _ _ _ _ _ _ _ _ _ _ _ _ _ _ _ _ _ _ _ _ _ _ _ _ _ _ _ _ _ _ _ _ _ _ _ _ _ _ _ _ _ _ _ _ _ _ _ _ _ _ _ _ _
              refine ⟨hK.from_ (fun b hb => by omega), hK.mono (fun b hb => by rcases hb with h | h; exact .inl h; exact .inr (.inl h)), by rw [hplen]; omega, ?_⟩
              rw [hplen]
              refine ⟨?_, hRQ.k14, hiv Y hR, hRQ.nums⟩
              have e : frst x S l (j + 1) = firstAt x S l i := by
                unfold frst
                rw [if_neg (by omega), HN.out, show m - (j + 1) = i by omega]
              rw [e]
              exact hRQ.pr
            case done =>
              rintro D0 ys X hD hS ⟨h1, hPJ⟩ hK
              have hys : ys.length = m := hS
              rw [hys] at hPJ
              have hfr : frst x S l m = firstAt x S l 0 := by
                unfold frst
                rw [if_neg (by omega), HN.out, Nat.sub_self]
              have hfw := firstAt_wf (x := x) (S := S) HL.out (i := 0) (by rw [HN.out]; omega)
              have hst := hPJ.st
              rw [st_all HN.out] at hst
              have hpr := hPJ.pr
              rw [hfr] at hpr
              have hDq : q0 < D0 ∧ q1 < D0 ∧ q3 < D0 ∧ q4 < D0 ∧ q5 < D0 ∧ gst < D0 := by have := HLT.out; omega
              have hwD : w.heap.size ≤ D0 := by omega
              have hn3 : q0 ≠ q3 ∧ q1 ≠ q3 := ⟨ne_rows hpr.r0 hpr.r3 (by decide), ne_rows hpr.r1 hpr.r3 (by decide)⟩
              have hg34 : gst ≠ q3 ∧ gst ≠ q4 ∧ gst ≠ q5 := by omega
              obtain ⟨F0, hF0⟩ : ∃ F, firstAt x S l 0 = F := ⟨_, rfl⟩
              rw [hF0] at hfw hpr
              obtain ⟨ST, hST⟩ : ∃ ST, (((List.range l.length).map (stepAt a x S l)).map hopL).flatten.toArray = ST := ⟨_, rfl⟩
              rw [hST] at hst
              have hPF0 : PF w q0 q1 q2 q3 q4 q5 gst D0 a x A m c F0 ST X := ⟨hpr, hst, hK⟩
              have HF0 := Lib.hid hF0
              have HST := Lib.hid hST
              clear hPJ hst hpr hfr hF0 hST hK
              rw [hT0]
              go_upto_region 26 with fail
              refine (wpIn_wide (n := 0)).1 ?_
              refine wpIn_region_chain wide_wide [.agg (hopC F0), .slice (some ⟨gst, 0, none⟩) m m, undef, undef] [2, 3] (fun k W => PF w q0 q1 q2 q3 q4 q5 gst D0 a x A m c F0 ST W) (fun m W W' hL h => h.later hL) hPF0 (by kernel_rfl) (by kernel_rfl) (by kernel_rfl) (by kernel_rfl) (by kernel_rfl) (by kernel_rfl) rfl (by decide) rfl ⟨?_, ?_, ?_, ?_, trivial⟩ ?_
              · exact chStep_val rfl (fun ac W m he hA => stepOk_want rfl (op_load rfl (he.keep (.tmp 6) (by kernel_rfl)) (loadHopR hfw hA.pr.r3) rfl))
              · exact chStep_val rfl (fun ac W m he hA => stepOk_want rfl (op_load rfl (he.keep (.tmp 7) (by kernel_rfl)) (loadHops ((hA.pr.r4.cell 0).trans rfl)) rfl))
              · refine chStep_put (k := 0) rfl (.inl rfl) (fun ac W he hA => ⟨rfl, ?_⟩)
                obtain ⟨W', hs, h1, h2⟩ := storeHop hfw hfw hA.pr.r3
                exact op_storeK rfl (he.keep (.tmp 6) (by kernel_rfl)) (show ac.eval (.tmp 128) = .agg (hopC F0) from he.val 0 128 (by kernel_rfl) rfl rfl) hs ⟨undef, rfl, hA.pr.in3 h2 h1 hq3 hn3, hA.st.grown h2 (fun e => hg34.1 (Option.some.inj e)), (h2.block D0 (Array.getElem?_eq_some_iff.1 hA.d).1 (fun e => by have := Option.some.inj e; omega)).trans hA.d⟩
              · refine chStep_put (k := 1) rfl (.inr (by kernel_rfl)) (fun ac W he hA => ⟨rfl, ?_⟩)
                exact op_storeK rfl (he.keep (.tmp 7) (by kernel_rfl)) (show ac.eval (.tmp 129) = .slice (some ⟨gst, 0, none⟩) m m from he.val 1 129 (by kernel_rfl) rfl rfl) (storeHopsV rfl hA.pr.r4) ⟨undef, rfl, hA.pr.set4 hq4 _, hA.st.far (p := ⟨q4, 0, none⟩) hg34.2.1 _, (Below.heap_setCell W ⟨q4, 0, none⟩ _ D0 (by show D0 ≠ q4; omega)).trans hA.d⟩
              intro xs W hA hxs hk hgt
              have hA : PF w q0 q1 q2 q3 q4 q5 gst D0 a x A m c F0 ST W := hA
              refine last_store rfl rfl (hk (.tmp 8) (by kernel_rfl)) rfl (storeErr1 hA.pr.r5) ?_
              have hP5 := hA.pr.set5 hq5 0
              have hs5 := hA.st.far (p := ⟨q5, 0, none⟩) hg34.2.2 (.int .i64 0)
              have hD5 : (W.setCell ⟨q5, 0, none⟩ (.int .i64 0)).heap[D0]? = some (.deferred (some [])) := (Below.heap_setCell W ⟨q5, 0, none⟩ _ D0 (by show D0 ≠ q5; omega)).trans hA.d
              clear hxs hk hgt hA hPF0
              simp only [initL, lastL, putL, Nat.reduceAdd, Act.put, List.setIfInBounds_toArray, List.set_cons_succ, List.set_cons_zero]
              generalize W.setCell ⟨q5, 0, none⟩ (.int .i64 0) = W6 at *
              go_wp2_with fail
              refine leavesM_mark (by simp) hD5 ?_
              refine leavesM_cons (f := 30) (args := #[.pointer (some ⟨q5, 0, none⟩), .func (.func 45) #[] #[.pointer (some ⟨q3, 0, none⟩), .pointer (some ⟨q4, 0, none⟩)]]) (by simp) rfl (by simp [go_sem]) ?_
              refine (rcaughtIn_idle _ _ _ _).mono ?_
              rintro e u' w'' ⟨rfl, rfl, hww⟩
              have ho : ∀ {g : Nat} {T : TypeId} {cs : Array Value}, Row W6 g T cs → g ≠ D0 → Row w'' g T cs := fun hr hn => by
                rw [hww]
                exact (World.putObj_heap_other hn).trans hr
              have kQ := ho hP5.r3 (by omega)
              have k4 := ho hP5.r4 (by omega)
              have k5 := ho hP5.r5 (by omega)
              have ks := ho hs5 (by omega)
              have hbb : Below w.heap.size w w'' := by rw [hww]; exact hP5.b.trans (below_put _ _ _ _ hwD hP5.b.size)
              show ∃ v, _ ∧ _
              refine ⟨_, results_ccc rfl _ _ q3 q4 q5 27 (hopC F0) _ (.slice (some ⟨gst, 0, none⟩) m m) _ rfl rfl rfl kQ Tryz.underlying27 rfl (by rw [hopC_size hfw]; exact infoHop) (loadHopsVar ((k4.cell 0).trans rfl)) (loadErr ((k5.cell 0).trans rfl)), HΦ.out _ _ ⟨⟨.slice (some ⟨gst, 0, none⟩) m m, by rw [HPLAN.out, ← HF0.out], some ⟨gst, 0, none⟩, m, by rw [HPLAN.out]; simp [HN.out], ?_⟩, hbb⟩⟩
              rw [HPLAN.out]
              refine Recs.row ks (fun l' hl' => ?_) (fun j v hv => by rw [← HST.out, List.getElem?_toArray]; exact hv)
              obtain ⟨h, hh, rfl⟩ := List.mem_map.1 hl'
              obtain ⟨i, hi, rfl⟩ := List.mem_map.1 hh
              exact hopL_len (stepAt_wf HL.out (List.mem_range.1 hi))
            case stop =>
              exact fun _ _ _ _ _ _ h _ => h.elim
          · have e1 : (er == 0) = false := by simpa using her
            have HNO : plan a x l = (noHop, [], er) := by
              unfold plan
              rw [if_pos HOK.out, HRT.out, if_neg her]
            go_wp2_with (first
              | (go_at_call 32; refine (rmust_no _ _).mono ?_; rintro e w7 ⟨h7, rfl⟩; obtain rfl := h7.symm)
              | fail)
            have hF := hPS
            refine leavesM_cons (f := 30) (args := #[.pointer (some ⟨q5, 0, none⟩), .func (.func 45) #[] #[.pointer (some ⟨q3, 0, none⟩), .pointer (some ⟨q4, 0, none⟩)]]) (by simp) rfl (by simp [go_sem]) ?_; refine (plan_caught _ q3 q4 q5 _ hwF _ _ _ w _ hF.r3 hF.r4 hF.r5 hF.b hq3 hq4 hq5).mono ?_; rintro e u' w'' ⟨rfl, rfl, kQ, cV, cE, hbG⟩; show ∃ v, _ ∧ _; exact ⟨_, results_ccc rfl _ _ q3 q4 q5 27 (hopC noHop) _ (.slice none 0 0) _ rfl rfl rfl kQ Tryz.underlying27 rfl (by rw [hopC_size noHop_wf]; exact infoHop) (loadHopsVar cV) (loadErr cE), HΦ.out _ _ ⟨⟨.slice none 0 0, by rw [HNO], none, 0, by rw [HNO]; rfl, by rw [HNO]; exact Recs.nil _ _ _⟩, hbG⟩⟩
end Go.Proofs.YtloiaaolnfimgaaGreat
