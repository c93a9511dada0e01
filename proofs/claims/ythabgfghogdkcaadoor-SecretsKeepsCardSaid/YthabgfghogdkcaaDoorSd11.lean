/- Walks: the law SecretsKeeps. -/
import Derived.Test.YthabgfghogdkcaaDoorSd10
set_option linter.unusedVariables false
set_option linter.unusedSimpArgs false
namespace Go.Proofs.YthabgfghogdkcaaDoor
open Go.RowKit
attribute [local go_sem] Oper.semAt_some
set_option maxRecDepth 100000 in
set_option maxHeartbeats 8000000 in
theorem secretsKeeps_good (l : List UInt8) (n : Nat) (A : Option Addr) (m c : Nat) (b : List UInt8) (w : World) (hl : l.length = 32) (hT : Tabs w) (hn : n ≤ 200) (hbn : b.length = m) (hm : m ≤ 1200) (hrd : Rd w A b) :
    Calls Tryd.prog 6 #[.agg (hC l), .int .i64 (n : Int), .slice A m c] w fun e w' => e = .returned (.bool true) ∧ Below w.heap.size w w' := by
  have hbx := boxH l hl
  have hr3 := Row.new w 23 (hC l)
  have hb1 := below_new w (.cells (hC l) 23)
  have d1 : decide ((n : Int) < 0) = false := decide_eq_false (by omega)
  have d2 : decide ((200 : Int) < (n : Int)) = false := decide_eq_false (by omega)
  have d3 : decide ((1200 : Int) < (m : Int)) = false := decide_eq_false (by omega)
  have d4 : decide (1200 < m) = false := decide_eq_false (by omega)
  have d5 : decide (200 < n) = false := decide_eq_false (by omega)
  have hrd1 := hrd.below hb1
  have hread := sread_any A m c b (w.alloc (.cells (hC l) 23)) hbn (by omega) hrd1
  have HT := Lib.hid hT
  have HL := Lib.hid hl
  have HREAD := Lib.hid hread
  have HBN := Lib.hid hbn
  clear hT hl hread hbn hrd
  refine (callsIn_wide (n := 6)).1 ?_
  refine callsIn_of_wp_marks Tryd.func6 rfl trivial ?_ rfl
  simp only [Tryd.ntmps6, List.size_toArray, List.length_cons, List.length_nil, Nat.reduceAdd, Nat.reduceSub, Array.replicate_succ, Array.replicate_zero, List.push_toArray, List.append_toArray, List.nil_append, List.cons_append]
  refine wpIn_wide.2 ?_
  go_upto_region 3 with (first
    | (with_reducible refine wpList_box rfl 23 (.tmp 0) rfl (.agg (hC l)) rfl (hbx _) ?_)
    | fail)
  clear d1 d2 d3 d4 d5 hbx
  generalize w.alloc (.cells (hC l) 23) = w1 at *
  obtain ⟨g3, hg3⟩ : ∃ g, g = w.heap.size := ⟨_, rfl⟩
  rw [← hg3] at hr3 ⊢
  have HG3 := Lib.hid hg3
  clear hg3
  go_upto_region 4 with (first
    | (go_at_call 18; refine HREAD.out.mono ?_; rintro e w2 ⟨hb2, (⟨hno, rfl⟩ | ⟨hyes, g, hgB, rfl, hk⟩)⟩)
    | fail)
  · have hb12 := hb1.trans (hb2.mono hb1.size)
    have hr32 := hr3.belowAll hb2
    clear hb2 hrd1 HREAD hno hr3 hb1
    refine (wpIn_wide (n := 0)).1 ?_
    refine wpIn_region_vals wide_wide [Pr.eq (.int .i64 162), Pr.eq (.int .i64 162), Pr.eq (.bool false), Pr.eq (.bool false), Pr.eq (undef), Pr.eq (undef), Pr.eq (undef), Pr.eq (undef), Pr.eq (undef), Pr.eq (undef), Pr.eq (.bool false)] (by kernel_rfl) (by kernel_rfl) (by kernel_rfl) (by kernel_rfl) (by kernel_rfl) ⟨?_, ?_, ?_, ?_, ?_, ?_, ?_, ?_, ?_, ?_, ?_, trivial⟩ ?_
    · exact fun ac W hL he => stepOk_want rfl (op_move rfl (he.keep (.tmp 8) (by kernel_rfl)))
    · intro ac W hL he; refine stepOk_want rfl ?_; have e0 : ac.eval (.tmp 39) = .int .i64 162 := (he.get 0 39 (by kernel_rfl) rfl); exact op_callF (vs := #[.int .i64 162]) rfl (by simp only [List.map_toArray, List.map_cons, List.map_nil, e0]) (enters_of Tryd.func8 (by kernel_rfl) rfl) (((num_is 162 W)).mono fun e W' ⟨he', hw'⟩ => ⟨_, he', hw' ▸ Later.refl _, rfl⟩)
    · exact fun ac W hL he => stepOk_want rfl (op_binOp rfl (he.get 1 40 (by kernel_rfl) rfl) rfl eqgII (eqlNo 162 0 (by decide) W) rfl)
    · exact fun ac W hL he => stepOk_want rfl (op_move rfl (he.get 2 41 (by kernel_rfl) rfl))
    · exact fun ac W hL he => stepOk_no rfl rfl (he.get 3 42 (by kernel_rfl) rfl) (by decide) rfl
    · exact fun ac W hL he => stepOk_no rfl rfl (he.get 3 42 (by kernel_rfl) rfl) (by decide) rfl
    · exact fun ac W hL he => stepOk_no rfl rfl (he.get 3 42 (by kernel_rfl) rfl) (by decide) rfl
    · exact fun ac W hL he => stepOk_no rfl rfl (he.get 3 42 (by kernel_rfl) rfl) (by decide) rfl
    · exact fun ac W hL he => stepOk_no rfl rfl (he.get 3 42 (by kernel_rfl) rfl) (by decide) rfl
    · exact fun ac W hL he => stepOk_no rfl rfl (he.get 3 42 (by kernel_rfl) rfl) (by decide) rfl
    · exact fun ac W hL he => stepOk_want rfl (op_pick (b := false) rfl (he.get 3 42 (by kernel_rfl) rfl) rfl)
    intro xs W hL hxs
    have h10 : xs 10 = .bool false := hxs 10 (by decide)
    have hbW := hb12.trans (hL.mono hb12.size)
    have hrW := hr32.later hL
    clear hxs hL hb12 hr32
    simp only [putL, Nat.reduceAdd, Act.put, List.setIfInBounds_toArray, List.set_cons_succ, List.set_cons_zero, h10]
    clear h10
    have hnew := knew_any W
    have kk := Row.new W 60 (kC 0 (fun _ => 0) (fun _ => []) true)
    have hbN := hbW.alloc hbW.size (.cells (kC 0 (fun _ => 0) (fun _ => []) true) 60)
    have hr3N := hrW.alloc (.cells (kC 0 (fun _ => 0) (fun _ => []) true) 60)
    have hg9b := hbW.size
    have hg39 := hrW.lt
    obtain ⟨g9, hg9⟩ : ∃ q, q = W.heap.size := ⟨_, rfl⟩
    rw [← hg9] at hnew kk hg9b hg39
    have kp : SeedKeep (W.alloc (.cells (kC 0 (fun _ => 0) (fun _ => []) true) 60)) g9 l 0 := seedKeep_new kk
    generalize W.alloc (.cells (kC 0 (fun _ => 0) (fun _ => []) true) 60) = w9 at *
    have HNEW := Lib.hid hnew
    clear hnew kk hg9 hbW hrW
    go_wp2_with (first
      | (go_at_call 11; refine HNEW.out.mono ?_; rintro e wz ⟨rfl, rfl⟩)
      | fail)
    clear HNEW
    go_loopw [10] (fun t wr => ∃ k : Nat, k ≤ n ∧ t = .int .i64 k ∧ Row wr g3 23 (hC l) ∧ SeedKeep wr g9 l k ∧ Below w.heap.size w wr) (fun t _ => n - (intOf t).toNat)
    case atStart => exact ⟨0, by omega, rfl, hr3N, kp, hbN⟩
    case round =>
      obtain ⟨k, hk, rfl, hr, kpr, hb⟩ := hrel
      clear hr3N hbN kp
      have hld3 := loadH HL.out hr
      by_cases hlt : k < n
      · have hrs := secret_any l (k : Int) wr HL.out
        have hR : Sec.secR l (k : Int) = (Sec.D l (2147483647 - k), 0) := by
          unfold Sec.secR
          rw [if_pos (inB_yes (by omega) (by omega))]
          simp
        rw [hR] at hrs
        have hdl : (Sec.D l (2147483647 - k)).length = 32 := Sec.D_len _ _ HL.out
        have hput := fun W hT hk => seed_put g9 k l W hT HL.out hk (by omega)
        generalize Sec.D l (2147483647 - k) = y at *
        have HRS := Lib.hid hrs
        have HDL := Lib.hid hdl
        have HPUT := Lib.hid hput
        have HKP := Lib.hid kpr
        have hltI : (k : Int) < (n : Int) := by omega
        clear hR hrs hdl hput kpr
        go_upto_region 11 with (first
          | (guard_target =~ wpList _ _ _ (_ :: _) _ _; refine wpList_load rfl 23 (.tmp 3) rfl (.pointer (some ⟨g3, 0, none⟩)) rfl hld3 ?_)
          | (go_at_call 15; refine HRS.out.mono ?_; rintro e w4 ⟨rfl, hb4⟩; obtain ⟨w5, hst, k11, hb5⟩ := newHx w4 y (Nat.le_of_eq HDL.out))
          | (with_reducible refine wpList_alloc rfl 23 rfl (allocH _) ?_)
          | (guard_target =~ wpList _ _ _ (_ :: _) _ _; refine wpList_store rfl 23 (.tmp 11) (.tmp 60) rfl (.pointer (some ⟨w4.heap.size, 0, none⟩)) (.agg (hC y)) rfl rfl hst ?_)
          | fail)
        have hb45 := hb4.trans (hb5.mono hb4.size)
        have hb6 := hb.trans (hb45.mono hb.size)
        have hr6 := hr.belowAll hb45
        have kp6 : SeedKeep w5 g9 l k := HKP.out.of_row (HKP.out.row.belowAll hb45)
        have hpt := HPUT.out w5 (HT.out.later hb6) kp6
        obtain ⟨g11, hg11⟩ : ∃ g, g = w4.heap.size := ⟨_, rfl⟩
        rw [← hg11] at k11 ⊢
        have hld11 := loadH HDL.out k11
        have HPT := Lib.hid hpt
        clear hg11 hst hb4 hb5 hb45 hpt kp6 hb
        go_wp2_with (first
          | (guard_target =~ wpList _ _ _ (_ :: _) _ _; refine wpList_loadG rfl 23 (.tmp 11) rfl (.pointer (some ⟨g11, 0, none⟩)) rfl hld11 ?_)
          | (go_at_call 13; refine HPT.out.mono ?_; rintro e w7 ⟨rfl, kp7, hs7⟩)
          | (go_at_call 8; refine (num_any _ _).mono ?_; rintro e wn ⟨rfl, rfl⟩)
          | fail)
        go_roundw
        case rel => exact ⟨k + 1, by omega, by go_num, hr6.same hs7 ⟨hr6.lt, by omega⟩, kp7, below_same hb6 hs7 hb6.size (by omega)⟩
        case measure => simp [intOf]; omega
      · obtain rfl : k = n := by omega
        clear hld3
        go_wp2_with fail
        go_loopw [13] (fun t wr => ∃ j : Nat, j ≤ k ∧ t = .int .i64 j ∧ Row wr g3 23 (hC l) ∧ SeedKeep wr g9 l k ∧ Below w.heap.size w wr) (fun t _ => k - (intOf t).toNat)
        case atStart => exact ⟨0, by omega, rfl, hr, kpr, hb⟩
        case round =>
          obtain ⟨j, hj, rfl, hr', kpr', hb'⟩ := hrel
          clear hr kpr hb
          have hld3 := loadH HL.out hr'
          by_cases hlt2 : j < k
          · have hrs := secret_any l (j : Int) wr HL.out
            have hR : Sec.secR l (j : Int) = (Sec.D l (2147483647 - j), 0) := by
              unfold Sec.secR
              rw [if_pos (inB_yes (by omega) (by omega))]
              simp
            rw [hR] at hrs
            have hdl : (Sec.D l (2147483647 - j)).length = 32 := Sec.D_len _ _ HL.out
            have hgt := fun W hT hk => seed_get g9 k j l W hT HL.out hk (by omega) hlt2
            generalize Sec.D l (2147483647 - j) = y at *
            have HRS := Lib.hid hrs
            have HDL := Lib.hid hdl
            have HGET := Lib.hid hgt
            have HKP := Lib.hid kpr'
            have hltI : (j : Int) < (k : Int) := by omega
            clear hR hrs hdl hgt kpr'
            go_upto_region 17 with (first
              | (guard_target =~ wpList _ _ _ (_ :: _) _ _; refine wpList_load rfl 23 (.tmp 3) rfl (.pointer (some ⟨g3, 0, none⟩)) rfl hld3 ?_)
              | (go_at_call 15; refine HRS.out.mono ?_; rintro e w4 ⟨rfl, hb4⟩; obtain ⟨w5, hst, k14, hb5⟩ := newHx w4 y (Nat.le_of_eq HDL.out))
              | (with_reducible refine wpList_alloc rfl 23 rfl (allocH _) ?_)
              | (guard_target =~ wpList _ _ _ (_ :: _) _ _; refine wpList_store rfl 23 (.tmp 14) (.tmp 82) rfl (.pointer (some ⟨w4.heap.size, 0, none⟩)) (.agg (hC y)) rfl rfl hst ?_)
              | fail)
            have hb45 := hb4.trans (hb5.mono hb4.size)
            have hb6 := hb'.trans (hb45.mono hb'.size)
            have hr6 := hr'.belowAll hb45
            have kp6 : SeedKeep w5 g9 l k := HKP.out.of_row (HKP.out.row.belowAll hb45)
            have hpt := HGET.out w5 (HT.out.later hb6) kp6
            obtain ⟨g14, hg14⟩ : ∃ g, g = w4.heap.size := ⟨_, rfl⟩
            rw [← hg14] at k14 ⊢
            have HPT := Lib.hid hpt
            clear hg14 hst hb4 hb5 hb45 hpt hb'
            go_upto_region 18 with (first
              | (go_at_call 14; refine HPT.out.mono ?_; rintro e w6 ⟨rfl, hb7⟩; obtain ⟨w7, hst, k16, hb8⟩ := newHx w6 y (Nat.le_of_eq HDL.out))
              | (with_reducible refine wpList_alloc rfl 23 rfl (allocH _) ?_)
              | (guard_target =~ wpList _ _ _ (_ :: _) _ _; refine wpList_store rfl 23 (.tmp 16) (.tmp 88) rfl (.pointer (some ⟨w6.heap.size, 0, none⟩)) (.agg (hC y)) rfl rfl hst ?_)
              | fail)
            have hb78 := hb7.trans (hb8.mono hb7.size)
            have hb9 := hb6.trans (hb78.mono hb6.size)
            have hr9 := hr6.belowAll hb78
            have k14' := k14.belowAll hb78
            have kp9 : SeedKeep w7 g9 l k := kp6.of_row (kp6.row.belowAll hb78)
            obtain ⟨g16, hg16⟩ : ∃ g, g = w6.heap.size := ⟨_, rfl⟩
            rw [← hg16] at k16 ⊢
            have l14 := loadH HDL.out k14'
            have l16 := loadH HDL.out k16
            have hne : (binOp .neq 23 (.agg (hC y)) (.agg (hC y))).run Tryd.prog w7 = .ok (.bool false) w7 := by rw [neqHash y y HDL.out HDL.out, beq_self_eq_true]; rfl
            clear hg16 hst hb7 hb8 hb78 hb6 hr6 kp6 k14 k14' k16 HPT
            go_wp2_with (first
              | (guard_target =~ wpList _ _ _ (_ :: _) _ _; first
                | (refine wpList_loadG rfl 23 (.tmp 16) rfl (.pointer (some ⟨g16, 0, none⟩)) rfl l16 ?_)
                | (refine wpList_loadG rfl 23 (.tmp 14) rfl (.pointer (some ⟨g14, 0, none⟩)) rfl l14 ?_)
                | (refine wpList_binG rfl .neq 23 23 (.tmp 97) (.tmp 98) rfl (.agg (hC y)) (.agg (hC y)) rfl rfl (eqgHash _ _ _ _ _ _) hne ?_))
              | (go_at_call 8; refine (num_any _ _).mono ?_; rintro e wn ⟨rfl, rfl⟩)
              | fail)
            go_roundw
            case rel => exact ⟨j + 1, by omega, by go_num, hr9, kp9, hb9⟩
            case measure => simp [intOf]; omega
          · obtain rfl : j = k := by omega
            clear hld3
            have hc1 : Row (wr.alloc (.cells #[.int .i64 0] 3)) wr.heap.size 3 #[.int .i64 0] := Row.new wr _ _
            have hb18 := hb'.alloc hb'.size (.cells #[.int .i64 0] 3)
            have hr18 := hr'.alloc (.cells #[.int .i64 0] 3)
            have kp18 : SeedKeep (wr.alloc (.cells #[.int .i64 0] 3)) g9 l j := kpr'.of_row (kpr'.row.alloc _)
            have hq18 := hb'.size
            have h9lt := kpr'.row.lt
            obtain ⟨q18, hq⟩ : ∃ g, g = wr.heap.size := ⟨_, rfl⟩
            go_upto_region 21 with fail
            rw [← hq] at hc1 hq18 h9lt ⊢
            generalize wr.alloc (.cells #[.int .i64 0] 3) = w18 at *
            have HC := Lib.hid hc1
            clear hc1 hq hr' kpr' hb'
            have hall := kall_any g9 j (Sec.keptIx j) (Sec.keptSc l j) w18 kp18.len kp18.row
            have HALL := Lib.hid hall
            clear hall
            go_upto_region 23 with (first
              | (go_at_call 20; refine HALL.out.mono ?_; rintro e w19 ⟨rfl, _, hL19⟩)
              | (guard_target =~ wpList _ _ _ (_ :: _) _ _; refine wpList_binop rfl .eql 45 45 (.tmp 102) (.const .nilFunc) rfl (.func (.func 49) #[] #[.pointer (some ⟨w18.heap.size, 0, none⟩)]) .nilFunc rfl rfl (eqgFnNil _ _ _ _ _ _) (eqFnNil _ _ _ _) ?_)
              | fail)
            have hb19 := hb18.trans (hL19.below.mono hb18.size)
            have kp19 : SeedKeep w19 g9 l j := kp18.of_row (kp18.row.later hL19)
            have hr19 := hr18.later hL19
            have hc19 := HC.out.later hL19
            have hall := kall_any g9 j (Sec.keptIx j) (Sec.keptSc l j) w19 kp19.len kp19.row
            clear hb18 kp18 hr18 hL19 HALL HC
            have HALL := Lib.hid hall
            clear hall
            go_wp2_with (first
              | (go_at_call 20; refine HALL.out.mono ?_; rintro e w20 ⟨rfl, kA, hL20⟩)
              | fail)
            have hb20 := hb19.trans (hL20.below.mono hb19.size)
            have kp20 : SeedKeep w20 g9 l j := kp19.of_row (kp19.row.later hL20)
            have hr20 := hr19.later hL20
            have hc20 := hc19.later hL20
            have hqA := hc19.lt
            obtain ⟨gA, hgA⟩ : ∃ q, q = w19.heap.size := ⟨_, rfl⟩
            rw [← hgA] at kA hqA ⊢
            have hseq := all2_seq gA j (Sec.keptIx j) (Sec.keptSc l j) w20 5 (by omega) kp20.len kp20.lim kA
            have hqlt := hc20.lt
            have HSQ := Lib.hid hseq
            have HI0 := Lib.hid (And.intro hc20 (And.intro hr20 kp20))
            clear hb19 kp19 hr19 hc19 hL20 HALL kA hgA hseq hc20 hr20 kp20
            refine name_frame fun T0 hT0 => ?_
            refine (wpIn_wide (n := 6)).1 ?_
            refine wpIn_range_D rfl (by omega) (gf := 49) (lb := #[.pointer (some ⟨gA, 0, none⟩)]) (by rw [hT0]; rfl) trivial (enters_of Tryd.func49 (by kernel_rfl) rfl)
              HSQ.out (fun r e => e.elim) (fun h k => h.trans k) (fun W l o ob hl ho hc => KeepR.put W l o ob ho hc) (Below.refl _ _) (fun _ => rfl)
              (fun pre W => (Row W q18 3 #[.int .i64 (pre.length : Int)] ∧ Row W g3 23 (hC l) ∧ SeedKeep W g9 l j) ∧ Below w.heap.size w W) (fun c _ W => False)
              ((stab_all (fun s X Y hk h => ⟨hk.row h.1, hk.row h.2.1, h.2.2.of_row (hk.row h.2.2.row)⟩)).and (stab_below (Nat.le_refl _) hb20.size (fun r e => e.elim)))
              (fun c => stab_false _ _)
              ⟨HI0.out, hb20⟩
              (fun pre x a' W => a' = { tmps := (T0.setIfInBounds 106 (.int .i64 x.1)).setIfInBounds 107 (.agg (hC x.2)), defers := [] })
              (fun pre x a' => stab_all (fun s X Y hk h => h)) ?assign ?body ?done ?stop
            case assign =>
              intro l0 pre x W K hi hok hK
              have HK := Lib.hid hK
              have HI := Lib.hid hi
              clear hK hi
              have e19 : ((#[106, 107] : Array Tmp).zip (kpE x)).foldl (fun t (p, v) => t.setIfInBounds p v) T0 = (T0.setIfInBounds 106 (.int .i64 x.1)).setIfInBounds 107 (.agg (hC x.2)) := by simp
              rw [e19]
              clear e19
              gi_wp2
              exact HK.out _ _ (KeepsFrom.refl _ _) (fun t cs h => h) HI.out rfl
            case body =>
              rintro l0 pre x a' W hl hlo ⟨⟨hc, hr, kp⟩, hb⟩ ⟨p, hp, hbp, hpre, hxe⟩ rfl
              have hpl : pre.length ≤ 32 := by rw [hpre]; have := Sec.items_le j (Sec.keptIx j) (Sec.keptSc l j) p; omega
              have hpn : ((pre ++ [x]).length : Int) = (pre.length : Int) + 1 := by simp
              have c18 : W.cell? ⟨q18, 0, none⟩ = some (.int .i64 (pre.length : Int)) := (hc.cell 0).trans rfl
              have f18 : W.frozen? ⟨q18, 0, none⟩ = false := hc.frozen 0
              have hwr1 : IntKind.i64.wrap ((pre.length : Int) + 1) = (pre.length : Int) + 1 := IntWalk.i64_in _ (by omega)
              have hset := hc.set 0 (.int .i64 ((pre.length : Int) + 1))
              have hgs := grown_set W q18 0 (.int .i64 ((pre.length : Int) + 1))
              have HS' := Lib.hid hset
              have HG := Lib.hid hgs
              have HPN := Lib.hid hpn
              rw [hT0]
              clear hT0 HSQ HI0 hset hgs hpn hpre hxe
              simp only [List.setIfInBounds_toArray, List.set_cons_succ, List.set_cons_zero]
              gi_wp2_with fail
              refine ⟨KeepsFrom.of_grownBy HG.out (fun j e => by cases e; exact hqlt), fun t cs h => h.grown HG.out (by intro e; injection e with e; omega), ⟨⟨by rw [HPN.out]; exact HS'.out, hr.grown HG.out (by intro e; injection e with e; omega), kp.of_row (kp.row.grown HG.out (by intro e; injection e with e; omega))⟩, hb.grown HG.out hb.size (fun j e => by cases e; omega)⟩⟩
            case stop =>
              rintro D c' pre W hD hSp h hK
              exact h.elim
            case done =>
              rintro D ys W hD hS ⟨⟨hc, hr, kp⟩, hb⟩ hK
              have hS' : ys = Sec.items j (Sec.keptIx j) (Sec.keptSc l j) 32 := hS
              have hcnt : ys.length = Sec.width j := by rw [hS', Sec.items_count j (by omega)]
              rw [hcnt] at hc
              have hwl := Sec.width_le j
              have hHas := fun p => Sec.has_iff (c := j) (k := p) (by omega)
              have hD2 : w.heap.size ≤ D := Nat.le_trans hb20.size hD
              obtain ⟨wd, hwd⟩ : ∃ q, Sec.width j = q := ⟨_, rfl⟩
              rw [hwd] at hc hwl
              simp only [hwd] at hHas
              have HHAS := Lib.hid hHas
              have HKP := Lib.hid kp
              clear hS' hS hcnt HSQ HI0 hHas hwd kp
              rw [hT0]
              clear hT0
              go_wp2_with fail
              go_loopw [19] (fun t wr => ∃ p : Nat, p ≤ wd ∧ t = .int .i64 p ∧ wr = W) (fun t _ => 32 - (intOf t).toNat)
              case atStart => exact ⟨0, Nat.zero_le _, rfl, rfl⟩
              case round =>
                obtain ⟨p, hp, rfl, rfl⟩ := hrel
                have hsr := fun (X : World) => shrI (x := j) (k := p) (by omega) (W := X)
                have hHp := HHAS.out p
                have hdec : Sec.hasB j p = decide (0 < j / 2 ^ p) := rfl
                obtain ⟨sh, hsh⟩ : ∃ q, j / 2 ^ p = q := ⟨_, rfl⟩
                rw [hsh] at hdec
                simp only [hsh] at hsr
                have HSR := Lib.hid hsr
                clear hsr hsh
                by_cases hpos : 0 < sh
                · have hplt : p < wd := hHp.1 (by rw [hdec]; exact decide_eq_true hpos)
                  have e1 : decide ((0 : Int) < (sh : Int)) = true := decide_eq_true (by omega)
                  have e2 : decide (0 < sh) = true := decide_eq_true hpos
                  clear hdec hHp
                  go_wp2_with (first
                    | (guard_target =~ wpList _ _ _ (_ :: _) _ _; refine wpList_binop rfl .shr 3 3 (.tmp 110) (.tmp 111) rfl (.int .i64 (j : Int)) (.int .i64 (p : Int)) rfl rfl (eqg_any rfl) (HSR.out _) ?_)
                    | fail)
                  go_roundw
                  case rel => exact ⟨p + 1, by omega, by go_num, trivial⟩
                  case measure => simp [intOf]; omega
                · obtain rfl : p = wd := by
                    rcases Nat.lt_or_ge p wd with h | h
                    · have := hHp.2 h
                      rw [hdec] at this
                      exact absurd (of_decide_eq_true this) hpos
                    · omega
                  have e1 : decide ((0 : Int) < (sh : Int)) = false := decide_eq_false (by omega)
                  have e2 : decide (0 < sh) = false := decide_eq_false hpos
                  have hraw := raw_any g9 j (Sec.keptIx j) (Sec.keptSc l j) wr (by omega) HKP.out
                  have HRAW := Lib.hid hraw
                  clear hdec hHp hraw
                  go_upto_region 28 with (first
                    | (guard_target =~ wpList _ _ _ (_ :: _) _ _; refine wpList_binop rfl .shr 3 3 (.tmp 110) (.tmp 111) rfl (.int .i64 (j : Int)) (.int .i64 (p : Int)) rfl rfl (eqg_any rfl) (HSR.out _) ?_)
                    | (go_at_call 19; refine HRAW.out.mono ?_; rintro e w30 ⟨v, rfl, hown, hb30⟩; obtain ⟨A5, c5, rfl, hrd5⟩ := raw_rd hown; have hrb := seed_back l HL.out j (by omega) A5 c5 w30 hrd5; have HRB := Lib.hid hrb; clear hown hrb)
                    | (go_at_call 18; refine HRB.out.mono ?_; rintro e w31 ⟨hb31, g20, hg20, rfl, kp20⟩)
                    | fail)
                  have hb3031 := hb30.trans (hb31.mono hb30.size)
                  have hbX := hb.trans (hb3031.mono hb.size)
                  have hcX := hc.belowAll hb3031
                  have kpX : SeedKeep w31 g9 l j := HKP.out.of_row (HKP.out.row.belowAll hb3031)
                  have hKX : w31.heap[D]? = some (.deferred (some [])) := (Below.block hb3031 D (Array.getElem?_eq_some_iff.1 hK).1).trans hK
                  have c18 : w31.cell? ⟨q18, 0, none⟩ = some (.int .i64 (p : Int)) := (hcX.cell 0).trans rfl
                  have hsame := same_yes g20 g9 j (Sec.keptIx j) (Sec.keptSc l j) w31 kpX.len kp20.row kpX.row
                  have hnext := fun W (hL : Below w31.heap.size w31 W) => next_any g9 j (Sec.keptIx j) (Sec.keptSc l j) W (kpX.row.belowAll hL)
                  have hwork := fun W (hL : Below w31.heap.size w31 W) => works_yes W (HT.out.later (hbX.trans (hL.mono hbX.size)))
                  have HSAME := Lib.hid hsame
                  have HNEXT := Lib.hid hnext
                  have HWORK := Lib.hid hwork
                  clear hb30 hb31 hb3031 hb hc HRAW HRB hsame hnext hwork kpX kp20 hrd5 hcX hK e1 e2
                  go_wp2_with (first
                    | (go_at_call 8; refine (num_any _ _).mono ?_; rintro e wn ⟨rfl, rfl⟩)
                    | (go_at_call 21; refine HSAME.out.mono ?_; rintro e w32 ⟨rfl, hb32⟩)
                    | (go_at_call 22; refine (HNEXT.out _ hb32).mono ?_; rintro e w33 ⟨hww, rfl⟩; replace hww := hww.symm; subst hww)
                    | (go_at_call 9; refine (HWORK.out _ hb32).mono ?_; rintro e w34 ⟨rfl, hb34⟩)
                    | fail)
                  have hb4 := hb32.trans (hb34.mono hb32.size)
                  have hKZ : w34.heap[D]? = some (.deferred (some [])) := (Below.block hb4 D (Array.getElem?_eq_some_iff.1 hKX).1).trans hKX
                  have hbZ := hbX.trans (hb4.mono hbX.size)
                  refine ⟨by simp, .inl ⟨_, _, rfl, run_takeDeferred hKZ, ?_⟩⟩
                  refine ⟨_, results_tmp rfl _ _ _, ?_⟩
                  exact ⟨rfl, hbZ.trans (belowK_b (w := w) (Nat.le_refl _) w34 D _ _ hD2 hKZ rfl rfl)⟩
  · have hb12 := hb1.trans (hb2.mono hb1.size)
    have hr32 := hr3.belowAll hb2
    have hrd2 := hrd1.below hb2
    obtain ⟨hback, hN⟩ := Sec.raw_back b hyes
    have hraw := fun W (hL : Later w2 W) => raw_any g (Sec.readN b) _ _ W hN (hk.of_row (hk.row.later hL))
    rw [hback] at hraw
    have HRAW := Lib.hid hraw
    clear hb2 hrd1 HREAD hyes hr3 hb1 hk hback hN hraw
    refine (wpIn_wide (n := 0)).1 ?_
    refine wpIn_region_vals wide_wide [Pr.eq (.int .i64 0), Pr.eq (.int .i64 0), Pr.eq (.bool true), Pr.eq (.bool true), Pr.eq (.pointer (some ⟨g, 0, none⟩)), Pr.rdn b, Pr.eq (.string ⟨b.toArray⟩), Pr.eq (.slice A m c), Pr.eq (.string ⟨b.toArray⟩), Pr.eq (.bool false), Pr.eq (.bool false)] (by kernel_rfl) (by kernel_rfl) (by kernel_rfl) (by kernel_rfl) (by kernel_rfl) ⟨?_, ?_, ?_, ?_, ?_, ?_, ?_, ?_, ?_, ?_, ?_, trivial⟩ ?_
    · exact fun ac W hL he => stepOk_want rfl (op_move rfl (he.keep (.tmp 8) (by kernel_rfl)))
    · intro ac W hL he; refine stepOk_want rfl ?_; have e0 : ac.eval (.tmp 39) = .int .i64 0 := (he.get 0 39 (by kernel_rfl) rfl); exact op_callF (vs := #[.int .i64 0]) rfl (by simp only [List.map_toArray, List.map_cons, List.map_nil, e0]) (enters_of Tryd.func8 (by kernel_rfl) rfl) (((num_is 0 W)).mono fun e W' ⟨he', hw'⟩ => ⟨_, he', hw' ▸ Later.refl _, rfl⟩)
    · exact fun ac W hL he => stepOk_want rfl (op_binOp rfl (he.get 1 40 (by kernel_rfl) rfl) rfl eqgII (eqlII 0 W) rfl)
    · exact fun ac W hL he => stepOk_want rfl (op_move rfl (he.get 2 41 (by kernel_rfl) rfl))
    · exact fun ac W hL he => stepOk_yes (j := 3) (t := 42) (b := true) rfl rfl (he.get 3 42 (by kernel_rfl) rfl) (op_move rfl (he.keep (.tmp 7) (by kernel_rfl)))
    · intro ac W hL he; refine stepOk_yes (j := 3) (t := 42) (b := true) rfl rfl (he.get 3 42 (by kernel_rfl) rfl) ?_; have e0 : ac.eval (.tmp 43) = .pointer (some ⟨g, 0, none⟩) := he.get 4 43 (by kernel_rfl) rfl; exact op_callF (vs := #[.pointer (some ⟨g, 0, none⟩)]) rfl (by simp only [List.map_toArray, List.map_cons, List.map_nil, e0]) (enters_of Tryd.func19 (by kernel_rfl) rfl) ((HRAW.out W hL).mono fun e W' ⟨v, he', hown, hbb⟩ => ⟨v, he', hbb, raw_rd hown⟩)
    · intro ac W hL he; refine stepOk_yes (j := 3) (t := 42) (b := true) rfl rfl (he.get 3 42 (by kernel_rfl) rfl) ?_; obtain ⟨A5, c5, e0, hrd5⟩ := he.get 5 44 (by kernel_rfl) rfl; exact op_convert rfl e0 (strOf hrd5 rfl) (Later.refl _) rfl
    · exact fun ac W hL he => stepOk_yes (j := 3) (t := 42) (b := true) rfl rfl (he.get 3 42 (by kernel_rfl) rfl) (op_move rfl (he.keep (.tmp 2) (by kernel_rfl)))
    · exact fun ac W hL he => stepOk_yes (j := 3) (t := 42) (b := true) rfl rfl (he.get 3 42 (by kernel_rfl) rfl) (op_convert rfl (he.get 7 46 (by kernel_rfl) rfl) (strOf (hrd2.later hL) HBN.out) (Later.refl _) rfl)
    · exact fun ac W hL he => stepOk_yes (j := 3) (t := 42) (b := true) rfl rfl (he.get 3 42 (by kernel_rfl) rfl) (op_binOp rfl (he.get 6 45 (by kernel_rfl) rfl) (he.get 8 47 (by kernel_rfl) rfl) eqgStr (neqStrMe _ _) rfl)
    · exact fun ac W hL he => stepOk_want rfl (op_pick (b := true) rfl (he.get 3 42 (by kernel_rfl) rfl) (he.get 9 48 (by kernel_rfl) rfl))
    intro xs W hL hxs
    have h10 : xs 10 = .bool false := hxs 10 (by decide)
    have hbW := hb12.trans (hL.mono hb12.size)
    have hrW := hr32.later hL
    clear hxs hL hb12 hr32
    simp only [putL, Nat.reduceAdd, Act.put, List.setIfInBounds_toArray, List.set_cons_succ, List.set_cons_zero, h10]
    clear h10
    have hnew := knew_any W
    have kk := Row.new W 60 (kC 0 (fun _ => 0) (fun _ => []) true)
    have hbN := hbW.alloc hbW.size (.cells (kC 0 (fun _ => 0) (fun _ => []) true) 60)
    have hr3N := hrW.alloc (.cells (kC 0 (fun _ => 0) (fun _ => []) true) 60)
    have hg9b := hbW.size
    have hg39 := hrW.lt
    obtain ⟨g9, hg9⟩ : ∃ q, q = W.heap.size := ⟨_, rfl⟩
    rw [← hg9] at hnew kk hg9b hg39
    have kp : SeedKeep (W.alloc (.cells (kC 0 (fun _ => 0) (fun _ => []) true) 60)) g9 l 0 := seedKeep_new kk
    generalize W.alloc (.cells (kC 0 (fun _ => 0) (fun _ => []) true) 60) = w9 at *
    have HNEW := Lib.hid hnew
    clear hnew kk hg9 hbW hrW
    go_wp2_with (first
      | (go_at_call 11; refine HNEW.out.mono ?_; rintro e wz ⟨rfl, rfl⟩)
      | fail)
    clear HNEW
    go_loopw [10] (fun t wr => ∃ k : Nat, k ≤ n ∧ t = .int .i64 k ∧ Row wr g3 23 (hC l) ∧ SeedKeep wr g9 l k ∧ Below w.heap.size w wr) (fun t _ => n - (intOf t).toNat)
    case atStart => exact ⟨0, by omega, rfl, hr3N, kp, hbN⟩
    case round =>
      obtain ⟨k, hk, rfl, hr, kpr, hb⟩ := hrel
      clear hr3N hbN kp
      have hld3 := loadH HL.out hr
      by_cases hlt : k < n
      · have hrs := secret_any l (k : Int) wr HL.out
        have hR : Sec.secR l (k : Int) = (Sec.D l (2147483647 - k), 0) := by
          unfold Sec.secR
          rw [if_pos (inB_yes (by omega) (by omega))]
          simp
        rw [hR] at hrs
        have hdl : (Sec.D l (2147483647 - k)).length = 32 := Sec.D_len _ _ HL.out
        have hput := fun W hT hk => seed_put g9 k l W hT HL.out hk (by omega)
        generalize Sec.D l (2147483647 - k) = y at *
        have HRS := Lib.hid hrs
        have HDL := Lib.hid hdl
        have HPUT := Lib.hid hput
        have HKP := Lib.hid kpr
        have hltI : (k : Int) < (n : Int) := by omega
        clear hR hrs hdl hput kpr
        go_upto_region 11 with (first
          | (guard_target =~ wpList _ _ _ (_ :: _) _ _; refine wpList_load rfl 23 (.tmp 3) rfl (.pointer (some ⟨g3, 0, none⟩)) rfl hld3 ?_)
          | (go_at_call 15; refine HRS.out.mono ?_; rintro e w4 ⟨rfl, hb4⟩; obtain ⟨w5, hst, k11, hb5⟩ := newHx w4 y (Nat.le_of_eq HDL.out))
          | (with_reducible refine wpList_alloc rfl 23 rfl (allocH _) ?_)
          | (guard_target =~ wpList _ _ _ (_ :: _) _ _; refine wpList_store rfl 23 (.tmp 11) (.tmp 60) rfl (.pointer (some ⟨w4.heap.size, 0, none⟩)) (.agg (hC y)) rfl rfl hst ?_)
          | fail)
        have hb45 := hb4.trans (hb5.mono hb4.size)
        have hb6 := hb.trans (hb45.mono hb.size)
        have hr6 := hr.belowAll hb45
        have kp6 : SeedKeep w5 g9 l k := HKP.out.of_row (HKP.out.row.belowAll hb45)
        have hpt := HPUT.out w5 (HT.out.later hb6) kp6
        obtain ⟨g11, hg11⟩ : ∃ g, g = w4.heap.size := ⟨_, rfl⟩
        rw [← hg11] at k11 ⊢
        have hld11 := loadH HDL.out k11
        have HPT := Lib.hid hpt
        clear hg11 hst hb4 hb5 hb45 hpt kp6 hb
        go_wp2_with (first
          | (guard_target =~ wpList _ _ _ (_ :: _) _ _; refine wpList_loadG rfl 23 (.tmp 11) rfl (.pointer (some ⟨g11, 0, none⟩)) rfl hld11 ?_)
          | (go_at_call 13; refine HPT.out.mono ?_; rintro e w7 ⟨rfl, kp7, hs7⟩)
          | (go_at_call 8; refine (num_any _ _).mono ?_; rintro e wn ⟨rfl, rfl⟩)
          | fail)
        go_roundw
        case rel => exact ⟨k + 1, by omega, by go_num, hr6.same hs7 ⟨hr6.lt, by omega⟩, kp7, below_same hb6 hs7 hb6.size (by omega)⟩
        case measure => simp [intOf]; omega
      · obtain rfl : k = n := by omega
        clear hld3
        go_wp2_with fail
        go_loopw [13] (fun t wr => ∃ j : Nat, j ≤ k ∧ t = .int .i64 j ∧ Row wr g3 23 (hC l) ∧ SeedKeep wr g9 l k ∧ Below w.heap.size w wr) (fun t _ => k - (intOf t).toNat)
        case atStart => exact ⟨0, by omega, rfl, hr, kpr, hb⟩
        case round =>
          obtain ⟨j, hj, rfl, hr', kpr', hb'⟩ := hrel
          clear hr kpr hb
          have hld3 := loadH HL.out hr'
          by_cases hlt2 : j < k
          · have hrs := secret_any l (j : Int) wr HL.out
            have hR : Sec.secR l (j : Int) = (Sec.D l (2147483647 - j), 0) := by
              unfold Sec.secR
              rw [if_pos (inB_yes (by omega) (by omega))]
              simp
            rw [hR] at hrs
            have hdl : (Sec.D l (2147483647 - j)).length = 32 := Sec.D_len _ _ HL.out
            have hgt := fun W hT hk => seed_get g9 k j l W hT HL.out hk (by omega) hlt2
            generalize Sec.D l (2147483647 - j) = y at *
            have HRS := Lib.hid hrs
            have HDL := Lib.hid hdl
            have HGET := Lib.hid hgt
            have HKP := Lib.hid kpr'
            have hltI : (j : Int) < (k : Int) := by omega
            clear hR hrs hdl hgt kpr'
            go_upto_region 17 with (first
              | (guard_target =~ wpList _ _ _ (_ :: _) _ _; refine wpList_load rfl 23 (.tmp 3) rfl (.pointer (some ⟨g3, 0, none⟩)) rfl hld3 ?_)
              | (go_at_call 15; refine HRS.out.mono ?_; rintro e w4 ⟨rfl, hb4⟩; obtain ⟨w5, hst, k14, hb5⟩ := newHx w4 y (Nat.le_of_eq HDL.out))
              | (with_reducible refine wpList_alloc rfl 23 rfl (allocH _) ?_)
              | (guard_target =~ wpList _ _ _ (_ :: _) _ _; refine wpList_store rfl 23 (.tmp 14) (.tmp 82) rfl (.pointer (some ⟨w4.heap.size, 0, none⟩)) (.agg (hC y)) rfl rfl hst ?_)
              | fail)
            have hb45 := hb4.trans (hb5.mono hb4.size)
            have hb6 := hb'.trans (hb45.mono hb'.size)
            have hr6 := hr'.belowAll hb45
            have kp6 : SeedKeep w5 g9 l k := HKP.out.of_row (HKP.out.row.belowAll hb45)
            have hpt := HGET.out w5 (HT.out.later hb6) kp6
            obtain ⟨g14, hg14⟩ : ∃ g, g = w4.heap.size := ⟨_, rfl⟩
            rw [← hg14] at k14 ⊢
            have HPT := Lib.hid hpt
            clear hg14 hst hb4 hb5 hb45 hpt hb'
            go_upto_region 18 with (first
              | (go_at_call 14; refine HPT.out.mono ?_; rintro e w6 ⟨rfl, hb7⟩; obtain ⟨w7, hst, k16, hb8⟩ := newHx w6 y (Nat.le_of_eq HDL.out))
              | (with_reducible refine wpList_alloc rfl 23 rfl (allocH _) ?_)
              | (guard_target =~ wpList _ _ _ (_ :: _) _ _; refine wpList_store rfl 23 (.tmp 16) (.tmp 88) rfl (.pointer (some ⟨w6.heap.size, 0, none⟩)) (.agg (hC y)) rfl rfl hst ?_)
              | fail)
            have hb78 := hb7.trans (hb8.mono hb7.size)
            have hb9 := hb6.trans (hb78.mono hb6.size)
            have hr9 := hr6.belowAll hb78
            have k14' := k14.belowAll hb78
            have kp9 : SeedKeep w7 g9 l k := kp6.of_row (kp6.row.belowAll hb78)
            obtain ⟨g16, hg16⟩ : ∃ g, g = w6.heap.size := ⟨_, rfl⟩
            rw [← hg16] at k16 ⊢
            have l14 := loadH HDL.out k14'
            have l16 := loadH HDL.out k16
            have hne : (binOp .neq 23 (.agg (hC y)) (.agg (hC y))).run Tryd.prog w7 = .ok (.bool false) w7 := by rw [neqHash y y HDL.out HDL.out, beq_self_eq_true]; rfl
            clear hg16 hst hb7 hb8 hb78 hb6 hr6 kp6 k14 k14' k16 HPT
            go_wp2_with (first
              | (guard_target =~ wpList _ _ _ (_ :: _) _ _; first
                | (refine wpList_loadG rfl 23 (.tmp 16) rfl (.pointer (some ⟨g16, 0, none⟩)) rfl l16 ?_)
                | (refine wpList_loadG rfl 23 (.tmp 14) rfl (.pointer (some ⟨g14, 0, none⟩)) rfl l14 ?_)
                | (refine wpList_binG rfl .neq 23 23 (.tmp 97) (.tmp 98) rfl (.agg (hC y)) (.agg (hC y)) rfl rfl (eqgHash _ _ _ _ _ _) hne ?_))
              | (go_at_call 8; refine (num_any _ _).mono ?_; rintro e wn ⟨rfl, rfl⟩)
              | fail)
            go_roundw
            case rel => exact ⟨j + 1, by omega, by go_num, hr9, kp9, hb9⟩
            case measure => simp [intOf]; omega
          · obtain rfl : j = k := by omega
            clear hld3
            have hc1 : Row (wr.alloc (.cells #[.int .i64 0] 3)) wr.heap.size 3 #[.int .i64 0] := Row.new wr _ _
            have hb18 := hb'.alloc hb'.size (.cells #[.int .i64 0] 3)
            have hr18 := hr'.alloc (.cells #[.int .i64 0] 3)
            have kp18 : SeedKeep (wr.alloc (.cells #[.int .i64 0] 3)) g9 l j := kpr'.of_row (kpr'.row.alloc _)
            have hq18 := hb'.size
            have h9lt := kpr'.row.lt
            obtain ⟨q18, hq⟩ : ∃ g, g = wr.heap.size := ⟨_, rfl⟩
            go_upto_region 21 with fail
            rw [← hq] at hc1 hq18 h9lt ⊢
            generalize wr.alloc (.cells #[.int .i64 0] 3) = w18 at *
            have HC := Lib.hid hc1
            clear hc1 hq hr' kpr' hb'
            have hall := kall_any g9 j (Sec.keptIx j) (Sec.keptSc l j) w18 kp18.len kp18.row
            have HALL := Lib.hid hall
            clear hall
            go_upto_region 23 with (first
              | (go_at_call 20; refine HALL.out.mono ?_; rintro e w19 ⟨rfl, _, hL19⟩)
              | (guard_target =~ wpList _ _ _ (_ :: _) _ _; refine wpList_binop rfl .eql 45 45 (.tmp 102) (.const .nilFunc) rfl (.func (.func 49) #[] #[.pointer (some ⟨w18.heap.size, 0, none⟩)]) .nilFunc rfl rfl (eqgFnNil _ _ _ _ _ _) (eqFnNil _ _ _ _) ?_)
              | fail)
            have hb19 := hb18.trans (hL19.below.mono hb18.size)
            have kp19 : SeedKeep w19 g9 l j := kp18.of_row (kp18.row.later hL19)
            have hr19 := hr18.later hL19
            have hc19 := HC.out.later hL19
            have hall := kall_any g9 j (Sec.keptIx j) (Sec.keptSc l j) w19 kp19.len kp19.row
            clear hb18 kp18 hr18 hL19 HALL HC
            have HALL := Lib.hid hall
            clear hall
            go_wp2_with (first
              | (go_at_call 20; refine HALL.out.mono ?_; rintro e w20 ⟨rfl, kA, hL20⟩)
              | fail)
            have hb20 := hb19.trans (hL20.below.mono hb19.size)
            have kp20 : SeedKeep w20 g9 l j := kp19.of_row (kp19.row.later hL20)
            have hr20 := hr19.later hL20
            have hc20 := hc19.later hL20
            have hqA := hc19.lt
            obtain ⟨gA, hgA⟩ : ∃ q, q = w19.heap.size := ⟨_, rfl⟩
            rw [← hgA] at kA hqA ⊢
            have hseq := all2_seq gA j (Sec.keptIx j) (Sec.keptSc l j) w20 5 (by omega) kp20.len kp20.lim kA
            have hqlt := hc20.lt
            have HSQ := Lib.hid hseq
            have HI0 := Lib.hid (And.intro hc20 (And.intro hr20 kp20))
            clear hb19 kp19 hr19 hc19 hL20 HALL kA hgA hseq hc20 hr20 kp20
            refine name_frame fun T0 hT0 => ?_
            refine (wpIn_wide (n := 6)).1 ?_
            refine wpIn_range_D rfl (by omega) (gf := 49) (lb := #[.pointer (some ⟨gA, 0, none⟩)]) (by rw [hT0]; rfl) trivial (enters_of Tryd.func49 (by kernel_rfl) rfl)
              HSQ.out (fun r e => e.elim) (fun h k => h.trans k) (fun W l o ob hl ho hc => KeepR.put W l o ob ho hc) (Below.refl _ _) (fun _ => rfl)
              (fun pre W => (Row W q18 3 #[.int .i64 (pre.length : Int)] ∧ Row W g3 23 (hC l) ∧ SeedKeep W g9 l j) ∧ Below w.heap.size w W) (fun c _ W => False)
              ((stab_all (fun s X Y hk h => ⟨hk.row h.1, hk.row h.2.1, h.2.2.of_row (hk.row h.2.2.row)⟩)).and (stab_below (Nat.le_refl _) hb20.size (fun r e => e.elim)))
              (fun c => stab_false _ _)
              ⟨HI0.out, hb20⟩
              (fun pre x a' W => a' = { tmps := (T0.setIfInBounds 106 (.int .i64 x.1)).setIfInBounds 107 (.agg (hC x.2)), defers := [] })
              (fun pre x a' => stab_all (fun s X Y hk h => h)) ?assign ?body ?done ?stop
            case assign =>
              intro l0 pre x W K hi hok hK
              have HK := Lib.hid hK
              have HI := Lib.hid hi
              clear hK hi
              have e19 : ((#[106, 107] : Array Tmp).zip (kpE x)).foldl (fun t (p, v) => t.setIfInBounds p v) T0 = (T0.setIfInBounds 106 (.int .i64 x.1)).setIfInBounds 107 (.agg (hC x.2)) := by simp
              rw [e19]
              clear e19
              gi_wp2
              exact HK.out _ _ (KeepsFrom.refl _ _) (fun t cs h => h) HI.out rfl
            case body =>
              rintro l0 pre x a' W hl hlo ⟨⟨hc, hr, kp⟩, hb⟩ ⟨p, hp, hbp, hpre, hxe⟩ rfl
              have hpl : pre.length ≤ 32 := by rw [hpre]; have := Sec.items_le j (Sec.keptIx j) (Sec.keptSc l j) p; omega
              have hpn : ((pre ++ [x]).length : Int) = (pre.length : Int) + 1 := by simp
              have c18 : W.cell? ⟨q18, 0, none⟩ = some (.int .i64 (pre.length : Int)) := (hc.cell 0).trans rfl
              have f18 : W.frozen? ⟨q18, 0, none⟩ = false := hc.frozen 0
              have hwr1 : IntKind.i64.wrap ((pre.length : Int) + 1) = (pre.length : Int) + 1 := IntWalk.i64_in _ (by omega)
              have hset := hc.set 0 (.int .i64 ((pre.length : Int) + 1))
              have hgs := grown_set W q18 0 (.int .i64 ((pre.length : Int) + 1))
              have HS' := Lib.hid hset
              have HG := Lib.hid hgs
              have HPN := Lib.hid hpn
              rw [hT0]
              clear hT0 HSQ HI0 hset hgs hpn hpre hxe
              simp only [List.setIfInBounds_toArray, List.set_cons_succ, List.set_cons_zero]
              gi_wp2_with fail
              refine ⟨KeepsFrom.of_grownBy HG.out (fun j e => by cases e; exact hqlt), fun t cs h => h.grown HG.out (by intro e; injection e with e; omega), ⟨⟨by rw [HPN.out]; exact HS'.out, hr.grown HG.out (by intro e; injection e with e; omega), kp.of_row (kp.row.grown HG.out (by intro e; injection e with e; omega))⟩, hb.grown HG.out hb.size (fun j e => by cases e; omega)⟩⟩
            case stop =>
              rintro D c' pre W hD hSp h hK
              exact h.elim
            case done =>
              rintro D ys W hD hS ⟨⟨hc, hr, kp⟩, hb⟩ hK
              have hS' : ys = Sec.items j (Sec.keptIx j) (Sec.keptSc l j) 32 := hS
              have hcnt : ys.length = Sec.width j := by rw [hS', Sec.items_count j (by omega)]
              rw [hcnt] at hc
              have hwl := Sec.width_le j
              have hHas := fun p => Sec.has_iff (c := j) (k := p) (by omega)
              have hD2 : w.heap.size ≤ D := Nat.le_trans hb20.size hD
              obtain ⟨wd, hwd⟩ : ∃ q, Sec.width j = q := ⟨_, rfl⟩
              rw [hwd] at hc hwl
              simp only [hwd] at hHas
              have HHAS := Lib.hid hHas
              have HKP := Lib.hid kp
              clear hS' hS hcnt HSQ HI0 hHas hwd kp
              rw [hT0]
              clear hT0
              go_wp2_with fail
              go_loopw [19] (fun t wr => ∃ p : Nat, p ≤ wd ∧ t = .int .i64 p ∧ wr = W) (fun t _ => 32 - (intOf t).toNat)
              case atStart => exact ⟨0, Nat.zero_le _, rfl, rfl⟩
              case round =>
                obtain ⟨p, hp, rfl, rfl⟩ := hrel
                have hsr := fun (X : World) => shrI (x := j) (k := p) (by omega) (W := X)
                have hHp := HHAS.out p
                have hdec : Sec.hasB j p = decide (0 < j / 2 ^ p) := rfl
                obtain ⟨sh, hsh⟩ : ∃ q, j / 2 ^ p = q := ⟨_, rfl⟩
                rw [hsh] at hdec
                simp only [hsh] at hsr
                have HSR := Lib.hid hsr
                clear hsr hsh
                by_cases hpos : 0 < sh
                · have hplt : p < wd := hHp.1 (by rw [hdec]; exact decide_eq_true hpos)
                  have e1 : decide ((0 : Int) < (sh : Int)) = true := decide_eq_true (by omega)
                  have e2 : decide (0 < sh) = true := decide_eq_true hpos
                  clear hdec hHp
                  go_wp2_with (first
                    | (guard_target =~ wpList _ _ _ (_ :: _) _ _; refine wpList_binop rfl .shr 3 3 (.tmp 110) (.tmp 111) rfl (.int .i64 (j : Int)) (.int .i64 (p : Int)) rfl rfl (eqg_any rfl) (HSR.out _) ?_)
                    | fail)
                  go_roundw
                  case rel => exact ⟨p + 1, by omega, by go_num, trivial⟩
                  case measure => simp [intOf]; omega
                · obtain rfl : p = wd := by
                    rcases Nat.lt_or_ge p wd with h | h
                    · have := hHp.2 h
                      rw [hdec] at this
                      exact absurd (of_decide_eq_true this) hpos
                    · omega
                  have e1 : decide ((0 : Int) < (sh : Int)) = false := decide_eq_false (by omega)
                  have e2 : decide (0 < sh) = false := decide_eq_false hpos
                  have hraw := raw_any g9 j (Sec.keptIx j) (Sec.keptSc l j) wr (by omega) HKP.out
                  have HRAW := Lib.hid hraw
                  clear hdec hHp hraw
                  go_upto_region 28 with (first
                    | (guard_target =~ wpList _ _ _ (_ :: _) _ _; refine wpList_binop rfl .shr 3 3 (.tmp 110) (.tmp 111) rfl (.int .i64 (j : Int)) (.int .i64 (p : Int)) rfl rfl (eqg_any rfl) (HSR.out _) ?_)
                    | (go_at_call 19; refine HRAW.out.mono ?_; rintro e w30 ⟨v, rfl, hown, hb30⟩; obtain ⟨A5, c5, rfl, hrd5⟩ := raw_rd hown; have hrb := seed_back l HL.out j (by omega) A5 c5 w30 hrd5; have HRB := Lib.hid hrb; clear hown hrb)
                    | (go_at_call 18; refine HRB.out.mono ?_; rintro e w31 ⟨hb31, g20, hg20, rfl, kp20⟩)
                    | fail)
                  have hb3031 := hb30.trans (hb31.mono hb30.size)
                  have hbX := hb.trans (hb3031.mono hb.size)
                  have hcX := hc.belowAll hb3031
                  have kpX : SeedKeep w31 g9 l j := HKP.out.of_row (HKP.out.row.belowAll hb3031)
                  have hKX : w31.heap[D]? = some (.deferred (some [])) := (Below.block hb3031 D (Array.getElem?_eq_some_iff.1 hK).1).trans hK
                  have c18 : w31.cell? ⟨q18, 0, none⟩ = some (.int .i64 (p : Int)) := (hcX.cell 0).trans rfl
                  have hsame := same_yes g20 g9 j (Sec.keptIx j) (Sec.keptSc l j) w31 kpX.len kp20.row kpX.row
                  have hnext := fun W (hL : Below w31.heap.size w31 W) => next_any g9 j (Sec.keptIx j) (Sec.keptSc l j) W (kpX.row.belowAll hL)
                  have hwork := fun W (hL : Below w31.heap.size w31 W) => works_yes W (HT.out.later (hbX.trans (hL.mono hbX.size)))
                  have HSAME := Lib.hid hsame
                  have HNEXT := Lib.hid hnext
                  have HWORK := Lib.hid hwork
                  clear hb30 hb31 hb3031 hb hc HRAW HRB hsame hnext hwork kpX kp20 hrd5 hcX hK e1 e2
                  go_wp2_with (first
                    | (go_at_call 8; refine (num_any _ _).mono ?_; rintro e wn ⟨rfl, rfl⟩)
                    | (go_at_call 21; refine HSAME.out.mono ?_; rintro e w32 ⟨rfl, hb32⟩)
                    | (go_at_call 22; refine (HNEXT.out _ hb32).mono ?_; rintro e w33 ⟨hww, rfl⟩; replace hww := hww.symm; subst hww)
                    | (go_at_call 9; refine (HWORK.out _ hb32).mono ?_; rintro e w34 ⟨rfl, hb34⟩)
                    | fail)
                  have hb4 := hb32.trans (hb34.mono hb32.size)
                  have hKZ : w34.heap[D]? = some (.deferred (some [])) := (Below.block hb4 D (Array.getElem?_eq_some_iff.1 hKX).1).trans hKX
                  have hbZ := hbX.trans (hb4.mono hbX.size)
                  refine ⟨by simp, .inl ⟨_, _, rfl, run_takeDeferred hKZ, ?_⟩⟩
                  refine ⟨_, results_tmp rfl _ _ _, ?_⟩
                  exact ⟨rfl, hbZ.trans (belowK_b (w := w) (Nat.le_refl _) w34 D _ _ hD2 hKZ rfl rfl)⟩
theorem secretsKeeps_walk (l : List UInt8) (hl : l.length = 32) (n : Int) (hn : (Lit.int .i64 n).wf = true) (A : Option Addr) (m c : Nat) (b : List UInt8) (w : World) (hi : InBytes w A m c b) (hT : Tabs w) :
    Calls Tryd.prog 6 #[.agg (l.map byteV).toArray, .int .i64 n, .slice A m c] w fun e w' => e = .returned (.bool true) ∧ Below w.heap.size w w' := by
  rw [← hC_full l hl]
  by_cases h : 0 ≤ n ∧ n ≤ 200 ∧ m ≤ 1200
  · obtain ⟨k, rfl⟩ : ∃ k : Nat, n = k := ⟨n.toNat, by omega⟩
    exact secretsKeeps_good l k A m c b w hl hT (by omega) hi.len h.2.2 hi.rd
  · exact secretsKeeps_bad l n A m c w hl hT (by omega)
end Go.Proofs.YthabgfghogdkcaaDoor
