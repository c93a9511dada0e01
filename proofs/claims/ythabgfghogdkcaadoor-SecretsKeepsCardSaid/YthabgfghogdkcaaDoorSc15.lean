/- Walks: the law SecretsSeeds. -/
import Derived.Test.YthabgfghogdkcaaDoorSc14
set_option linter.unusedVariables false
set_option linter.unusedSimpArgs false
namespace Go.Proofs.YthabgfghogdkcaaDoor
open Go.RowKit
set_option maxRecDepth 100000 in
set_option maxHeartbeats 8000000 in
theorem secretsSeeds_walk (l : List UInt8) (hl : l.length = 32) (n : Int) (hn : (Lit.int .i64 n).wf = true) (w : World) (hT : Tabs w) :
    Calls Tryd.prog 5 #[.agg (l.map byteV).toArray, .int .i64 n] w fun e w' => e = .returned (.bool true) ∧ Below w.heap.size w w' := by
  rw [← hC_full l hl]
  have hbx := boxH l hl
  have hr2 := Row.new w 23 (hC l)
  have hb1 := below_new w (.cells (hC l) 23)
  have hld2 := loadH hl hr2
  have hc := secret_any l n (w.alloc (.cells (hC l) 23)) hl
  have hrd := fun W => refSecret_any l n W hl
  have hyo := Sec.secR_or l n hl
  have hyl := Sec.secR_len l n hl
  have hpt := fun W => point_any l W hl
  have hrp := fun W => refPoint_any l W hl
  have hpl : (Sec.point l).length = 32 := Sha.sum_len _
  generalize (Sec.secR l n).1 = y at *
  generalize (Sec.secR l n).2 = er at *
  generalize Sec.point l = z at *
  have HT := Lib.hid hT
  have HC := Lib.hid hc
  have HRD := Lib.hid hrd
  have HYL := Lib.hid hyl
  have HYO := Lib.hid hyo
  have HPT := Lib.hid hpt
  have HRP := Lib.hid hrp
  have HPL := Lib.hid hpl
  have HL := Lib.hid hl
  clear hc hT hrd hyl hl hyo hpt hrp hpl hn
  go_enter Tryd.func5, Tryd.ntmps5
  go_upto_region 2 with (first
    | (with_reducible refine wpList_box rfl 23 (.tmp 0) rfl (.agg (hC l)) rfl (hbx _) ?_)
    | (guard_target =~ wpList _ _ _ (_ :: _) _ _; refine wpList_load rfl 23 (.tmp 2) rfl (.pointer (some ⟨w.heap.size, 0, none⟩)) rfl hld2 ?_)
    | (go_at_call 15; refine HC.out.mono ?_; rintro e w2 ⟨rfl, hb2⟩; obtain ⟨w3, hst, k5, hb3⟩ := newHx w2 y HYL.out)
    | (with_reducible refine wpList_alloc rfl 23 rfl (allocH _) ?_)
    | (guard_target =~ wpList _ _ _ (_ :: _) _ _; refine wpList_store rfl 23 (.tmp 5) (.tmp 13) rfl (.pointer (some ⟨w2.heap.size, 0, none⟩)) (.agg (hC y)) rfl rfl hst ?_)
    | fail)
  have hb23 := hb2.trans (hb3.mono hb2.size)
  have hb := hb1.trans (hb23.mono hb1.size)
  have k2 := hr2.belowAll hb23
  obtain ⟨g2, hg2⟩ : ∃ g, g = w.heap.size := ⟨_, rfl⟩
  rw [← hg2] at k2 ⊢
  obtain ⟨g5, hg5⟩ : ∃ g, g = w2.heap.size := ⟨_, rfl⟩
  rw [← hg5] at k5 ⊢
  clear hg2 hg5 hst hb3 hb2 hb23 hld2 hr2 hb1 HC hbx
  have hld2 := loadH HL.out k2
  go_upto_region 3 with (first
    | (guard_target =~ wpList _ _ _ (_ :: _) _ _; refine wpList_load rfl 23 (.tmp 2) rfl (.pointer (some ⟨g2, 0, none⟩)) rfl hld2 ?_)
    | (go_at_call 12; refine (HRD.out _).mono ?_; rintro e w4 ⟨rfl, hb4⟩; obtain ⟨w5, hst, k7, hb5⟩ := newHx w4 y HYL.out)
    | (with_reducible refine wpList_alloc rfl 23 rfl (allocH _) ?_)
    | (guard_target =~ wpList _ _ _ (_ :: _) _ _; refine wpList_store rfl 23 (.tmp 7) (.tmp 19) rfl (.pointer (some ⟨w4.heap.size, 0, none⟩)) (.agg (hC y)) rfl rfl hst ?_)
    | fail)
  have hb45 := hb4.trans (hb5.mono hb4.size)
  have hb := hb.trans (hb45.mono hb.size)
  have k2 := k2.belowAll hb45
  have k5 := k5.belowAll hb45
  obtain ⟨g7, hg7⟩ : ∃ g, g = w4.heap.size := ⟨_, rfl⟩
  rw [← hg7] at k7 ⊢
  clear hg7 hst hb4 hb5 hb45 hld2
  refine (wpIn_wide (n := 0)).1 ?_
  refine wpIn_region_vals wide_wide [Pr.eq (.agg (hC y)), Pr.eq (.agg (hC y)), Pr.eq (.bool true), Pr.eq (.bool true), Pr.eq (.int .i64 er), Pr.eq (.int .i64 er), Pr.eq (.int .i64 er), Pr.eq (.bool true), Pr.eq (.bool true), Pr.eq (.bool true), Pr.eq (.agg (hC l)), Pr.eq (.agg (hC z)), Pr.eq (.agg (hC l)), Pr.eq (.agg (hC z)), Pr.eq (.bool true), Pr.eq (.bool true), Pr.eq (.bool true), Pr.eq (.bool true), Pr.eq (.bool true), Pr.eq (.bool true)] (by kernel_rfl) (by kernel_rfl) (by kernel_rfl) (by kernel_rfl) (by kernel_rfl) ⟨?_, ?_, ?_, ?_, ?_, ?_, ?_, ?_, ?_, ?_, ?_, ?_, ?_, ?_, ?_, ?_, ?_, ?_, ?_, ?_, trivial⟩ ?_
  · exact fun ac W hL he => stepOk_want rfl (op_load rfl (he.keep (.tmp 5) (by kernel_rfl)) (loadHz HYL.out (k5.later hL)) rfl)
  · exact fun ac W hL he => stepOk_want rfl (op_load rfl (he.keep (.tmp 7) (by kernel_rfl)) (loadHz HYL.out (k7.later hL)) rfl)
  · exact fun ac W hL he => stepOk_want rfl (op_binOp rfl (he.get 0 21 (by kernel_rfl) rfl) (he.get 1 22 (by kernel_rfl) rfl) (eqgHash _ _ _ _ _ _) (eqlAny y HYO.out _) rfl)
  · exact fun ac W hL he => stepOk_want rfl (op_move rfl (he.get 2 23 (by kernel_rfl) rfl))
  · exact fun ac W hL he => stepOk_yes (j := 3) (t := 24) (b := true) rfl rfl (he.get 3 24 (by kernel_rfl) rfl) (op_move rfl (he.keep (.tmp 6) (by kernel_rfl)))
  · intro ac W hL he; refine stepOk_yes (j := 3) (t := 24) (b := true) rfl rfl (he.get 3 24 (by kernel_rfl) rfl) ?_; have e0 : ac.eval (.tmp 25) = .int .i64 er := (he.get 4 25 (by kernel_rfl) rfl); exact op_callF (vs := #[.int .i64 er]) rfl (by simp only [List.map_toArray, List.map_cons, List.map_nil, e0]) (enters_of Tryd.func8 (by kernel_rfl) rfl) (((num_is er W)).mono fun e W' ⟨he', hw'⟩ => ⟨_, he', hw' ▸ Later.refl _, rfl⟩)
  · exact fun ac W hL he => stepOk_yes (j := 3) (t := 24) (b := true) rfl rfl (he.get 3 24 (by kernel_rfl) rfl) (op_move rfl (he.keep (.tmp 8) (by kernel_rfl)))
  · exact fun ac W hL he => stepOk_yes (j := 3) (t := 24) (b := true) rfl rfl (he.get 3 24 (by kernel_rfl) rfl) (op_binOp rfl (he.get 5 26 (by kernel_rfl) rfl) (he.get 6 27 (by kernel_rfl) rfl) eqgII (eqlII er _) rfl)
  · exact fun ac W hL he => stepOk_want rfl (op_pick (b := true) rfl (he.get 3 24 (by kernel_rfl) rfl) (he.get 7 28 (by kernel_rfl) rfl))
  · exact fun ac W hL he => stepOk_want rfl (op_move rfl (he.get 8 29 (by kernel_rfl) rfl))
  · exact fun ac W hL he => stepOk_yes (j := 9) (t := 30) (b := true) rfl rfl (he.get 9 30 (by kernel_rfl) rfl) (op_load rfl (he.keep (.tmp 2) (by kernel_rfl)) (loadH HL.out (k2.later hL)) rfl)
  · intro ac W hL he; refine stepOk_yes (j := 9) (t := 30) (b := true) rfl rfl (he.get 9 30 (by kernel_rfl) rfl) ?_; have e0 : ac.eval (.tmp 31) = .agg (hC l) := (he.get 10 31 (by kernel_rfl) rfl); exact op_callF (vs := #[.agg (hC l)]) rfl (by simp only [List.map_toArray, List.map_cons, List.map_nil, e0]) (enters_of Tryd.func16 (by kernel_rfl) rfl) (((HPT.out W)).mono fun e W' ⟨he', hb⟩ => ⟨_, he', hb, rfl⟩)
  · exact fun ac W hL he => stepOk_yes (j := 9) (t := 30) (b := true) rfl rfl (he.get 9 30 (by kernel_rfl) rfl) (op_load rfl (he.keep (.tmp 2) (by kernel_rfl)) (loadH HL.out (k2.later hL)) rfl)
  · intro ac W hL he; refine stepOk_yes (j := 9) (t := 30) (b := true) rfl rfl (he.get 9 30 (by kernel_rfl) rfl) ?_; have e0 : ac.eval (.tmp 33) = .agg (hC l) := (he.get 12 33 (by kernel_rfl) rfl); exact op_callF (vs := #[.agg (hC l)]) rfl (by simp only [List.map_toArray, List.map_cons, List.map_nil, e0]) (enters_of Tryd.func17 (by kernel_rfl) rfl) (((HRP.out W)).mono fun e W' ⟨he', hb⟩ => ⟨_, he', hb, rfl⟩)
  · exact fun ac W hL he => stepOk_yes (j := 9) (t := 30) (b := true) rfl rfl (he.get 9 30 (by kernel_rfl) rfl) (op_binOp rfl (he.get 11 32 (by kernel_rfl) rfl) (he.get 13 34 (by kernel_rfl) rfl) (eqgHash _ _ _ _ _ _) (eqlSame z HPL.out _) rfl)
  · exact fun ac W hL he => stepOk_want rfl (op_pick (b := true) rfl (he.get 9 30 (by kernel_rfl) rfl) (he.get 14 35 (by kernel_rfl) rfl))
  · exact fun ac W hL he => stepOk_want rfl (op_move rfl (he.get 15 36 (by kernel_rfl) rfl))
  · intro ac W hL he; refine stepOk_yes (j := 16) (t := 37) (b := true) rfl rfl (he.get 16 37 (by kernel_rfl) rfl) ?_; exact op_callF (vs := #[]) rfl (by simp) (enters_of Tryd.func9 (by kernel_rfl) rfl) (((works_yes W (HT.out.later (hb.trans (hL.mono hb.size))))).mono fun e W' ⟨he', hb⟩ => ⟨_, he', hb, rfl⟩)
  · exact fun ac W hL he => stepOk_want rfl (op_pick (b := true) rfl (he.get 16 37 (by kernel_rfl) rfl) (he.get 17 38 (by kernel_rfl) rfl))
  · exact fun ac W hL he => stepOk_want rfl (op_assign rfl (he.get 18 39 (by kernel_rfl) rfl))
  intro xs W hL2 hxs
  have h19 : xs 19 = .bool true := hxs 19 (by decide)
  clear hxs
  simp only [putL, Nat.reduceAdd, Act.put, List.setIfInBounds_toArray, List.set_cons_succ, List.set_cons_zero, h19]
  clear h19
  go_wp2_with fail
  go_ret
  exact ⟨rfl, hb.trans (hL2.mono hb.size)⟩
end Go.Proofs.YthabgfghogdkcaaDoor
