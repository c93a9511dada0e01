/- Walks, route: works. -/
import Derived.Test.YtloiaaolnfimgaaGreatRk10
set_option linter.unusedVariables false
set_option linter.unusedSimpArgs false
namespace Go.Proofs.YtloiaaolnfimgaaGreat
open Go.RowKit Rt
section
variable {P : Program} {ops : Array Oper} {rest : List Oper} {o : Oper} {a : Act} {w : World} {Q : Exit → Act → World → Prop}
theorem wpList_buildSl (hgd : o.guard = none) (T : TypeId) (n : Nat) (parts : Array (Nat × Operand)) (ho : o.op = .buildSlice T n parts) (vs : Array (Nat × Value)) (hp : (parts.map fun (i, x) => (i, a.eval x)) = vs)
    {v : Value} {w' : World} (hr : (Instr.buildSlice T n vs).run P w = .ok v w')
    (h : wpList P ops Q rest (a.put o.dst v) w') : wpList P ops Q (o :: rest) a w :=
  wpList_plain hgd fun _ hK => by
    unfold Oper.wp execOp
    simp only [ho, Sem.run_bind, Sem.run_pure, Result.andThen_ok, hp, hr]
    exact hK _ _ h
end
set_option maxRecDepth 100000 in
set_option maxHeartbeats 1000000 in
theorem works_yes (w : World) : Calls Tryz.prog 8 #[] w fun e w' => e = .returned (.bool true) ∧ Below w.heap.size w w' := by
  refine Calls.post fun Φ HΦ => ?_
  obtain ⟨H1, H2, Z, NH, HW, E1, E2, EE, IV, FW, S, wp⟩ := wp_all
  have WP := Lib.hid wp
  clear wp
  have hsm : Tryz.underlying22 = Tryz.underlying22 := rfl
  clear hsm
  have L1 := below_new w (.cells #[] 27)
  have hb0 : ∀ w : World, (Instr.buildSlice 22 0 #[]).run Tryz.prog w = .ok (.slice (some ⟨w.heap.size, 0, none⟩) 0 0) (w.alloc (.cells #[] 27)) := fun w => by kernel_rfl
  go_enter Tryz.func8, Tryz.ntmps8
  go_upto_region 2 with (first
    | (go_at_call 9; refine (wrap_nil _ _ _).mono ?_; rintro e w1 ⟨rfl, h1⟩; obtain rfl := h1)
    | (guard_target =~ wpList _ _ _ (_ :: _) _ _; refine wpList_buildSl rfl 22 0 _ rfl #[] rfl (hb0 _) ?_)
    | fail)
  generalize w.alloc (.cells #[] 27) = w1 at *
  clear hb0
  go_upto_region 3 with (first
    | (guard_target =~ wpList _ _ _ (_ :: _) _ _; refine wpList_build rfl 25 _ rfl #[(0, .int .u8 1)] (by simp only [List.map_toArray, List.map_cons, List.map_nil]; rfl) (WP.out.h1 _) ?_)
    | (guard_target =~ wpList _ _ _ (_ :: _) _ _; refine wpList_build rfl 27 _ rfl #[(1, .agg H1), (2, .int .i64 1), (3, .int .i64 1)] (by simp only [List.map_toArray, List.map_cons, List.map_nil]; rfl) (WP.out.hop _) ?_)
    | (guard_target =~ wpList _ _ _ (_ :: _) _ _; refine wpList_buildSl rfl 22 1 _ rfl #[(0, .agg HW)] (by simp only [List.map_toArray, List.map_cons, List.map_nil]; rfl) (WP.out.hops _) ?_)
    | (go_at_call 9; refine (WP.out.wrap w1).mono ?_; rintro e w2 ⟨rfl, L2⟩)
    | fail)
  have LA : Later w1 (w1.alloc (.cells HW 27)) := below_new w1 _
  have L12 : Below w.heap.size w w2 := L1.trans ((LA.step L2).below.mono L1.size)
  clear LA
  clear L1 L2
  go_upto_region 4 with (first
    | (go_at_call 12; refine (WP.out.peel w2).mono ?_; rintro e w3 ⟨rfl, L3⟩; obtain ⟨w4, hs4, L4⟩ := WP.out.nHop w3)
    | (with_reducible refine wpList_alloc rfl 27 rfl (WP.out.aHop _) ?_)
    | (guard_target =~ wpList _ _ _ (_ :: _) _ _; refine wpList_store rfl 27 (.tmp 5) (.tmp 30) rfl (.pointer (some ⟨w3.heap.size, 0, none⟩)) (.agg NH) rfl rfl hs4 ?_)
    | fail)
  have L14 : Below w.heap.size w w4 := L12.trans ((Below.trans L3 (L4.below.mono L3.size)).mono L12.size)
  clear L12 L3 L4 hs4
  go_upto_region 5 with (first
    | (guard_target =~ wpList _ _ _ (_ :: _) _ _; refine wpList_build rfl 42 _ rfl #[(0, .int .i64 1)] (by simp only [List.map_toArray, List.map_cons, List.map_nil]; rfl) (WP.out.fee _) ?_; simp only [Act.put, List.setIfInBounds_toArray, List.set_cons_zero, List.set_cons_succ])
    | (guard_target =~ wpList _ _ _ (_ :: _) _ _; refine wpList_build rfl 25 _ rfl #[(0, .int .u8 1)] (by simp only [List.map_toArray, List.map_cons, List.map_nil]; rfl) (WP.out.h1 _) ?_; simp only [Act.put, List.setIfInBounds_toArray, List.set_cons_zero, List.set_cons_succ])
    | (guard_target =~ wpList _ _ _ (_ :: _) _ _; refine wpList_build rfl 25 _ rfl #[(0, .int .u8 2)] (by simp only [List.map_toArray, List.map_cons, List.map_nil]; rfl) (WP.out.h2 _) ?_; simp only [Act.put, List.setIfInBounds_toArray, List.set_cons_zero, List.set_cons_succ])
    | (guard_target =~ wpList _ _ _ (_ :: _) _ _; refine wpList_build rfl 44 #[(2, .tmp 34), (3, .const (.int .i64 6)), (1, .tmp 35)] rfl #[(2, .agg #[.int .i64 1, .int .i64 0]), (3, .int .i64 6), (1, .agg H1)] (by simp only [List.map_toArray, List.map_cons, List.map_nil]; rfl) (WP.out.e1 _) ?_; simp only [Act.put, List.setIfInBounds_toArray, List.set_cons_zero, List.set_cons_succ])
    | (guard_target =~ wpList _ _ _ (_ :: _) _ _; refine wpList_build rfl 44 #[(2, .tmp 37), (3, .const (.int .i64 6)), (1, .tmp 38)] rfl #[(2, .agg #[.int .i64 1, .int .i64 0]), (3, .int .i64 6), (1, .agg H2)] (by simp only [List.map_toArray, List.map_cons, List.map_nil]; rfl) (WP.out.e2 _) ?_; simp only [Act.put, List.setIfInBounds_toArray, List.set_cons_zero, List.set_cons_succ])
    | (guard_target =~ wpList _ _ _ (_ :: _) _ _; refine wpList_buildSl rfl 40 2 _ rfl #[(0, .agg E1), (1, .agg E2)] (by simp only [List.map_toArray, List.map_cons, List.map_nil]; rfl) (WP.out.es _) ?_)
    | (go_at_call 14; refine (WP.out.plan w4).mono ?_; rintro e w5 ⟨⟨B, c', rfl, hR5⟩, L5⟩; obtain ⟨w6, hs6, k6, L6⟩ := WP.out.nFst w5)
    | (with_reducible refine wpList_alloc rfl 27 rfl (WP.out.aHop _) ?_)
    | (guard_target =~ wpList _ _ _ (_ :: _) _ _; refine wpList_store rfl 27 (.tmp 8) (.tmp 42) rfl (.pointer (some ⟨w5.heap.size, 0, none⟩)) (.agg FW) rfl rfl hs6 ?_)
    | fail)
  have hR6 := hR5.later L6
  obtain ⟨g6, hg6⟩ : ∃ g, g = w5.heap.size := ⟨_, rfl⟩
  rw [← hg6] at k6 ⊢
  have L16 : Below w.heap.size w w6 := by
    have h1 : Below w4.heap.size w4 w5 := (below_new w4 (.cells EE 44)).trans (L5.mono (by omega))
    exact L14.trans ((Below.trans h1 (L6.below.mono h1.size)).mono L14.size)
  clear hR5 L5 L6 hs6 L14 hg6
  go_upto_region 7 with (first
    | (go_at_call 18; refine (WP.out.parse w6).mono ?_; rintro e w7 ⟨rfl, L7⟩; obtain ⟨w8, hs8, L8⟩ := WP.out.nInv w7)
    | (with_reducible refine wpList_alloc rfl 51 rfl (WP.out.aInv _) ?_)
    | (guard_target =~ wpList _ _ _ (_ :: _) _ _; refine wpList_store rfl 51 (.tmp 11) (.tmp 47) rfl (.pointer (some ⟨w7.heap.size, 0, none⟩)) (.agg NH) rfl rfl hs8 ?_)
    | (guard_target =~ wpList _ _ _ (_ :: _) _ _; refine wpList_build rfl 51 _ rfl #[(3, .int .i64 1)] (by simp only [List.map_toArray, List.map_cons, List.map_nil]; rfl) (WP.out.inv _) ?_)
    | (go_at_call 16; refine (WP.out.text w8).mono ?_; rintro e w9 ⟨rfl, L9⟩)
    | fail)
  have L69 : Later w6 w9 := (Later.step L7 L8).step L9
  have k9 := k6.later L69
  have hR9 := hR6.later L69
  have L19 : Below w.heap.size w w9 := L16.trans (L69.below.mono L16.size)
  clear L7 L8 L9 hs8 k6 hR6 L16 L69
  obtain ⟨hS2, hSl⟩ := WP.out.s
  obtain ⟨hf64, hf65⟩ := WP.out.fw
  obtain ⟨bB, oB, rfl, h0⟩ := hR9.at_ (k := 0) (by omega)
  have h1 : w9.rangeAt bB (oB + 1 * 66) (S[1]'(by omega)) := by
    obtain ⟨b', o', e', h⟩ := hR9.at_ (k := 1) (by omega)
    injection e' with e'
    injection e' with e1 e2
    subst e1 e2
    exact h
  have c064 : w9.cell? ⟨bB, oB + 0 * 66 + 64, none⟩ = some (.int .i64 100) := h0 64 _ (hSl _ (List.getElem_mem _)).1
  have c065 : w9.cell? ⟨bB, oB + 0 * 66 + 65, none⟩ = some (.int .i64 50) := h0 65 _ (hSl _ (List.getElem_mem _)).2
  have c164 : w9.cell? ⟨bB, oB + 1 * 66 + 64, none⟩ = some (.int .i64 100) := h1 64 _ (hSl _ (List.getElem_mem _)).1
  have c165 : w9.cell? ⟨bB, oB + 1 * 66 + 65, none⟩ = some (.int .i64 50) := h1 65 _ (hSl _ (List.getElem_mem _)).2
  have f64 : w9.cell? ⟨g6, 64, none⟩ = some (.int .i64 101) := (k9.cell 64).trans hf64
  have f65 : w9.cell? ⟨g6, 65, none⟩ = some (.int .i64 56) := (k9.cell 65).trans hf65
  have up : ∀ {b k : Nat} {v : Value}, w9.cell? ⟨b, k, none⟩ = some v → ∀ W, Later w9 W → W.cell? ⟨b, k, none⟩ = some v := fun h W hL => Later.cell hL h
  have c064 := up c064
  have c065 := up c065
  have c164 := up c164
  have c165 := up c165
  have f64 := up f64
  have f65 := up f65
  clear h0 h1 hR9 k9 hS2 hSl hf64 hf65 WP up
  refine wp_region_seqL [Pr.eq (.int .i64 2), Pr.eq (.int .i64 2), Pr.eq (.bool true), Pr.eq (.bool true), Pr.eq (.int .i64 2), Pr.eq (.int .i64 2), Pr.eq (.bool true), Pr.eq (.bool true), Pr.eq (.bool true), Pr.eq (.int .i64 350), Pr.eq (.int .i64 350), Pr.eq (.bool true), Pr.eq (.bool true), Pr.eq (.bool true), Pr.eq (.int .i64 0), Pr.eq (.int .i64 0), Pr.eq (.bool true), Pr.eq (.bool true), Pr.eq (.bool true), Pr.eq (.pointer (some ⟨g6, 64, none⟩)), Pr.eq (.int .i64 101), Pr.eq (.bool true), Pr.eq (.bool true), Pr.eq (.bool true), Pr.eq (.pointer (some ⟨g6, 65, none⟩)), Pr.eq (.int .i64 56), Pr.eq (.bool true), Pr.eq (.bool true), Pr.eq (.bool true), Pr.eq (.slice (some ⟨bB, oB, none⟩) 2 c'), Pr.eq (.int .i64 (2 : Int)), Pr.eq (.bool true), Pr.eq (.bool true), Pr.eq (.bool true), Pr.eq (.slice (some ⟨bB, oB, none⟩) 2 c'), Pr.eq (.pointer (some ⟨bB, oB + 0 * 66, none⟩)), Pr.eq (.pointer (some ⟨bB, oB + 0 * 66 + 64, none⟩)), Pr.eq (.int .i64 100), Pr.eq (.bool true), Pr.eq (.bool true), Pr.eq (.bool true), Pr.eq (.slice (some ⟨bB, oB, none⟩) 2 c'), Pr.eq (.pointer (some ⟨bB, oB + 0 * 66, none⟩)), Pr.eq (.pointer (some ⟨bB, oB + 0 * 66 + 65, none⟩)), Pr.eq (.int .i64 50), Pr.eq (.bool true), Pr.eq (.bool true), Pr.eq (.bool true), Pr.eq (.slice (some ⟨bB, oB, none⟩) 2 c'), Pr.eq (.pointer (some ⟨bB, oB + 1 * 66, none⟩)), Pr.eq (.pointer (some ⟨bB, oB + 1 * 66 + 64, none⟩)), Pr.eq (.int .i64 100), Pr.eq (.bool true), Pr.eq (.bool true), Pr.eq (.bool true), Pr.eq (.slice (some ⟨bB, oB, none⟩) 2 c'), Pr.eq (.pointer (some ⟨bB, oB + 1 * 66, none⟩)), Pr.eq (.pointer (some ⟨bB, oB + 1 * 66 + 65, none⟩)), Pr.eq (.int .i64 50), Pr.eq (.bool true), Pr.eq (.bool true), Pr.eq (.bool true), Pr.eq (.int .i64 351), Pr.eq (.int .i64 351), Pr.eq (.bool true), Pr.eq (.bool true), Pr.eq (.bool true), Pr.eq (.int .i64 2), Pr.eq (.int .i64 2), Pr.eq (.bool true), Pr.eq (.bool true), Pr.eq (.bool true)] (by kernel_rfl) (by kernel_rfl) (by kernel_rfl) ⟨?_, ?_, ?_, ?_, ?_, ?_, ?_, ?_, ?_, ?_, ?_, ?_, ?_, ?_, ?_, ?_, ?_, ?_, ?_, ?_, ?_, ?_, ?_, ?_, ?_, ?_, ?_, ?_, ?_, ?_, ?_, ?_, ?_, ?_, ?_, ?_, ?_, ?_, ?_, ?_, ?_, ?_, ?_, ?_, ?_, ?_, ?_, ?_, ?_, ?_, ?_, ?_, ?_, ?_, ?_, ?_, ?_, ?_, ?_, ?_, ?_, ?_, ?_, ?_, ?_, ?_, ?_, ?_, ?_, ?_, ?_, ?_, trivial⟩ ?_
  · exact fun ac W hL he => stepOk_want rfl (op_move rfl (he.keep (.tmp 2) (by kernel_rfl)))
  · intro ac W hL he; refine stepOk_want rfl ?_; have e0 : ac.eval (.tmp 54) = .int .i64 2 := (he.get 0 54 (by kernel_rfl) rfl); exact op_callF (vs := #[.int .i64 2]) rfl (by simp only [List.map_toArray, List.map_cons, List.map_nil, e0]) (enters_of Tryz.func11 (by kernel_rfl) rfl) (((rnum_any _ W)).mono fun e W' ⟨he', hw'⟩ => ⟨_, he', hw' ▸ Later.refl _, rfl⟩)
  · exact fun ac W hL he => stepOk_want rfl (op_binOp rfl (he.get 1 55 (by kernel_rfl) rfl) rfl (by kernel_rfl) (by kernel_rfl) rfl)
  · exact fun ac W hL he => stepOk_want rfl (op_move rfl (he.get 2 56 (by kernel_rfl) rfl))
  · exact fun ac W hL he => stepOk_yes (j := 3) (t := 57) (b := true) rfl rfl (he.get 3 57 (by kernel_rfl) rfl) (op_move rfl (he.keep (.tmp 4) (by kernel_rfl)))
  · intro ac W hL he; refine stepOk_yes (j := 3) (t := 57) (b := true) rfl rfl (he.get 3 57 (by kernel_rfl) rfl) ?_; have e0 : ac.eval (.tmp 58) = .int .i64 2 := (he.get 4 58 (by kernel_rfl) rfl); exact op_callF (vs := #[.int .i64 2]) rfl (by simp only [List.map_toArray, List.map_cons, List.map_nil, e0]) (enters_of Tryz.func11 (by kernel_rfl) rfl) (((rnum_any _ W)).mono fun e W' ⟨he', hw'⟩ => ⟨_, he', hw' ▸ Later.refl _, rfl⟩)
  · exact fun ac W hL he => stepOk_yes (j := 3) (t := 57) (b := true) rfl rfl (he.get 3 57 (by kernel_rfl) rfl) (op_binOp rfl (he.get 5 59 (by kernel_rfl) rfl) rfl (by kernel_rfl) (by kernel_rfl) rfl)
  · exact fun ac W hL he => stepOk_want rfl (op_pick (b := true) rfl (he.get 3 57 (by kernel_rfl) rfl) (he.get 6 60 (by kernel_rfl) rfl))
  · exact fun ac W hL he => stepOk_want rfl (op_move rfl (he.get 7 61 (by kernel_rfl) rfl))
  · exact fun ac W hL he => stepOk_yes (j := 8) (t := 62) (b := true) rfl rfl (he.get 8 62 (by kernel_rfl) rfl) (op_move rfl (he.keep (.tmp 7) (by kernel_rfl)))
  · intro ac W hL he; refine stepOk_yes (j := 8) (t := 62) (b := true) rfl rfl (he.get 8 62 (by kernel_rfl) rfl) ?_; have e0 : ac.eval (.tmp 63) = .int .i64 350 := (he.get 9 63 (by kernel_rfl) rfl); exact op_callF (vs := #[.int .i64 350]) rfl (by simp only [List.map_toArray, List.map_cons, List.map_nil, e0]) (enters_of Tryz.func11 (by kernel_rfl) rfl) (((rnum_any _ W)).mono fun e W' ⟨he', hw'⟩ => ⟨_, he', hw' ▸ Later.refl _, rfl⟩)
  · exact fun ac W hL he => stepOk_yes (j := 8) (t := 62) (b := true) rfl rfl (he.get 8 62 (by kernel_rfl) rfl) (op_binOp rfl (he.get 10 64 (by kernel_rfl) rfl) rfl (by kernel_rfl) (by kernel_rfl) rfl)
  · exact fun ac W hL he => stepOk_want rfl (op_pick (b := true) rfl (he.get 8 62 (by kernel_rfl) rfl) (he.get 11 65 (by kernel_rfl) rfl))
  · exact fun ac W hL he => stepOk_want rfl (op_move rfl (he.get 12 66 (by kernel_rfl) rfl))
  · exact fun ac W hL he => stepOk_yes (j := 13) (t := 67) (b := true) rfl rfl (he.get 13 67 (by kernel_rfl) rfl) (op_move rfl (he.keep (.tmp 10) (by kernel_rfl)))
  · intro ac W hL he; refine stepOk_yes (j := 13) (t := 67) (b := true) rfl rfl (he.get 13 67 (by kernel_rfl) rfl) ?_; have e0 : ac.eval (.tmp 68) = .int .i64 0 := (he.get 14 68 (by kernel_rfl) rfl); exact op_callF (vs := #[.int .i64 0]) rfl (by simp only [List.map_toArray, List.map_cons, List.map_nil, e0]) (enters_of Tryz.func11 (by kernel_rfl) rfl) (((rnum_any _ W)).mono fun e W' ⟨he', hw'⟩ => ⟨_, he', hw' ▸ Later.refl _, rfl⟩)
  · exact fun ac W hL he => stepOk_yes (j := 13) (t := 67) (b := true) rfl rfl (he.get 13 67 (by kernel_rfl) rfl) (op_binOp rfl (he.get 15 69 (by kernel_rfl) rfl) rfl (by kernel_rfl) (by kernel_rfl) rfl)
  · exact fun ac W hL he => stepOk_want rfl (op_pick (b := true) rfl (he.get 13 67 (by kernel_rfl) rfl) (he.get 16 70 (by kernel_rfl) rfl))
  · exact fun ac W hL he => stepOk_want rfl (op_move rfl (he.get 17 71 (by kernel_rfl) rfl))
  · exact fun ac W hL he => stepOk_yes (j := 18) (t := 72) (b := true) rfl rfl (he.get 18 72 (by kernel_rfl) rfl) (op_fieldAddr rfl (he.keep (.tmp 8) (by kernel_rfl)) fHop2 rfl)
  · exact fun ac W hL he => stepOk_yes (j := 18) (t := 72) (b := true) rfl rfl (he.get 18 72 (by kernel_rfl) rfl) (op_load rfl (he.get 19 73 (by kernel_rfl) rfl) (ldI64 (f64 W hL)) rfl)
  · exact fun ac W hL he => stepOk_yes (j := 18) (t := 72) (b := true) rfl rfl (he.get 18 72 (by kernel_rfl) rfl) (op_binOp rfl (he.get 20 74 (by kernel_rfl) rfl) rfl (by kernel_rfl) (by kernel_rfl) rfl)
  · exact fun ac W hL he => stepOk_want rfl (op_pick (b := true) rfl (he.get 18 72 (by kernel_rfl) rfl) (he.get 21 75 (by kernel_rfl) rfl))
  · exact fun ac W hL he => stepOk_want rfl (op_move rfl (he.get 22 76 (by kernel_rfl) rfl))
  · exact fun ac W hL he => stepOk_yes (j := 23) (t := 77) (b := true) rfl rfl (he.get 23 77 (by kernel_rfl) rfl) (op_fieldAddr rfl (he.keep (.tmp 8) (by kernel_rfl)) fHop3 rfl)
  · exact fun ac W hL he => stepOk_yes (j := 23) (t := 77) (b := true) rfl rfl (he.get 23 77 (by kernel_rfl) rfl) (op_load rfl (he.get 24 78 (by kernel_rfl) rfl) (ldI64 (f65 W hL)) rfl)
  · exact fun ac W hL he => stepOk_yes (j := 23) (t := 77) (b := true) rfl rfl (he.get 23 77 (by kernel_rfl) rfl) (op_binOp rfl (he.get 25 79 (by kernel_rfl) rfl) rfl (by kernel_rfl) (by kernel_rfl) rfl)
  · exact fun ac W hL he => stepOk_want rfl (op_pick (b := true) rfl (he.get 23 77 (by kernel_rfl) rfl) (he.get 26 80 (by kernel_rfl) rfl))
  · exact fun ac W hL he => stepOk_want rfl (op_move rfl (he.get 27 81 (by kernel_rfl) rfl))
  · exact fun ac W hL he => stepOk_yes (j := 28) (t := 82) (b := true) rfl rfl (he.get 28 82 (by kernel_rfl) rfl) (op_move rfl (he.keep (.tmp 9) (by kernel_rfl)))
  · exact fun ac W hL he => stepOk_yes (j := 28) (t := 82) (b := true) rfl rfl (he.get 28 82 (by kernel_rfl) rfl) (op_len Tryz.underlying22 rfl (he.get 29 83 (by kernel_rfl) rfl) rfl)
  · exact fun ac W hL he => stepOk_yes (j := 28) (t := 82) (b := true) rfl rfl (he.get 28 82 (by kernel_rfl) rfl) (op_binOp rfl (he.get 30 84 (by kernel_rfl) rfl) rfl (by kernel_rfl) (by kernel_rfl) rfl)
  · exact fun ac W hL he => stepOk_want rfl (op_pick (b := true) rfl (he.get 28 82 (by kernel_rfl) rfl) (he.get 31 85 (by kernel_rfl) rfl))
  · exact fun ac W hL he => stepOk_want rfl (op_move rfl (he.get 32 86 (by kernel_rfl) rfl))
  · exact fun ac W hL he => stepOk_yes (j := 33) (t := 87) (b := true) rfl rfl (he.get 33 87 (by kernel_rfl) rfl) (op_move rfl (he.keep (.tmp 9) (by kernel_rfl)))
  · exact fun ac W hL he => stepOk_yes (j := 33) (t := 87) (b := true) rfl rfl (he.get 33 87 (by kernel_rfl) rfl) (op_idx rfl (he.get 34 88 (by kernel_rfl) rfl) rfl (idxHop W (by decide)) rfl)
  · exact fun ac W hL he => stepOk_yes (j := 33) (t := 87) (b := true) rfl rfl (he.get 33 87 (by kernel_rfl) rfl) (op_fieldAddr rfl (he.get 35 89 (by kernel_rfl) rfl) fHop2 rfl)
  · exact fun ac W hL he => stepOk_yes (j := 33) (t := 87) (b := true) rfl rfl (he.get 33 87 (by kernel_rfl) rfl) (op_load rfl (he.get 36 90 (by kernel_rfl) rfl) (ldI64 (c064 W hL)) rfl)
  · exact fun ac W hL he => stepOk_yes (j := 33) (t := 87) (b := true) rfl rfl (he.get 33 87 (by kernel_rfl) rfl) (op_binOp rfl (he.get 37 91 (by kernel_rfl) rfl) rfl (by kernel_rfl) (by kernel_rfl) rfl)
  · exact fun ac W hL he => stepOk_want rfl (op_pick (b := true) rfl (he.get 33 87 (by kernel_rfl) rfl) (he.get 38 92 (by kernel_rfl) rfl))
  · exact fun ac W hL he => stepOk_want rfl (op_move rfl (he.get 39 93 (by kernel_rfl) rfl))
  · exact fun ac W hL he => stepOk_yes (j := 40) (t := 94) (b := true) rfl rfl (he.get 40 94 (by kernel_rfl) rfl) (op_move rfl (he.keep (.tmp 9) (by kernel_rfl)))
  · exact fun ac W hL he => stepOk_yes (j := 40) (t := 94) (b := true) rfl rfl (he.get 40 94 (by kernel_rfl) rfl) (op_idx rfl (he.get 41 95 (by kernel_rfl) rfl) rfl (idxHop W (by decide)) rfl)
  · exact fun ac W hL he => stepOk_yes (j := 40) (t := 94) (b := true) rfl rfl (he.get 40 94 (by kernel_rfl) rfl) (op_fieldAddr rfl (he.get 42 96 (by kernel_rfl) rfl) fHop3 rfl)
  · exact fun ac W hL he => stepOk_yes (j := 40) (t := 94) (b := true) rfl rfl (he.get 40 94 (by kernel_rfl) rfl) (op_load rfl (he.get 43 97 (by kernel_rfl) rfl) (ldI64 (c065 W hL)) rfl)
  · exact fun ac W hL he => stepOk_yes (j := 40) (t := 94) (b := true) rfl rfl (he.get 40 94 (by kernel_rfl) rfl) (op_binOp rfl (he.get 44 98 (by kernel_rfl) rfl) rfl (by kernel_rfl) (by kernel_rfl) rfl)
  · exact fun ac W hL he => stepOk_want rfl (op_pick (b := true) rfl (he.get 40 94 (by kernel_rfl) rfl) (he.get 45 99 (by kernel_rfl) rfl))
  · exact fun ac W hL he => stepOk_want rfl (op_move rfl (he.get 46 100 (by kernel_rfl) rfl))
  · exact fun ac W hL he => stepOk_yes (j := 47) (t := 101) (b := true) rfl rfl (he.get 47 101 (by kernel_rfl) rfl) (op_move rfl (he.keep (.tmp 9) (by kernel_rfl)))
  · exact fun ac W hL he => stepOk_yes (j := 47) (t := 101) (b := true) rfl rfl (he.get 47 101 (by kernel_rfl) rfl) (op_idx rfl (he.get 48 102 (by kernel_rfl) rfl) rfl (idxHop W (by decide)) rfl)
  · exact fun ac W hL he => stepOk_yes (j := 47) (t := 101) (b := true) rfl rfl (he.get 47 101 (by kernel_rfl) rfl) (op_fieldAddr rfl (he.get 49 103 (by kernel_rfl) rfl) fHop2 rfl)
  · exact fun ac W hL he => stepOk_yes (j := 47) (t := 101) (b := true) rfl rfl (he.get 47 101 (by kernel_rfl) rfl) (op_load rfl (he.get 50 104 (by kernel_rfl) rfl) (ldI64 (c164 W hL)) rfl)
  · exact fun ac W hL he => stepOk_yes (j := 47) (t := 101) (b := true) rfl rfl (he.get 47 101 (by kernel_rfl) rfl) (op_binOp rfl (he.get 51 105 (by kernel_rfl) rfl) rfl (by kernel_rfl) (by kernel_rfl) rfl)
  · exact fun ac W hL he => stepOk_want rfl (op_pick (b := true) rfl (he.get 47 101 (by kernel_rfl) rfl) (he.get 52 106 (by kernel_rfl) rfl))
  · exact fun ac W hL he => stepOk_want rfl (op_move rfl (he.get 53 107 (by kernel_rfl) rfl))
  · exact fun ac W hL he => stepOk_yes (j := 54) (t := 108) (b := true) rfl rfl (he.get 54 108 (by kernel_rfl) rfl) (op_move rfl (he.keep (.tmp 9) (by kernel_rfl)))
  · exact fun ac W hL he => stepOk_yes (j := 54) (t := 108) (b := true) rfl rfl (he.get 54 108 (by kernel_rfl) rfl) (op_idx rfl (he.get 55 109 (by kernel_rfl) rfl) rfl (idxHop W (by decide)) rfl)
  · exact fun ac W hL he => stepOk_yes (j := 54) (t := 108) (b := true) rfl rfl (he.get 54 108 (by kernel_rfl) rfl) (op_fieldAddr rfl (he.get 56 110 (by kernel_rfl) rfl) fHop3 rfl)
  · exact fun ac W hL he => stepOk_yes (j := 54) (t := 108) (b := true) rfl rfl (he.get 54 108 (by kernel_rfl) rfl) (op_load rfl (he.get 57 111 (by kernel_rfl) rfl) (ldI64 (c165 W hL)) rfl)
  · exact fun ac W hL he => stepOk_yes (j := 54) (t := 108) (b := true) rfl rfl (he.get 54 108 (by kernel_rfl) rfl) (op_binOp rfl (he.get 58 112 (by kernel_rfl) rfl) rfl (by kernel_rfl) (by kernel_rfl) rfl)
  · exact fun ac W hL he => stepOk_want rfl (op_pick (b := true) rfl (he.get 54 108 (by kernel_rfl) rfl) (he.get 59 113 (by kernel_rfl) rfl))
  · exact fun ac W hL he => stepOk_want rfl (op_move rfl (he.get 60 114 (by kernel_rfl) rfl))
  · exact fun ac W hL he => stepOk_yes (j := 61) (t := 115) (b := true) rfl rfl (he.get 61 115 (by kernel_rfl) rfl) (op_move rfl (he.keep (.tmp 12) (by kernel_rfl)))
  · intro ac W hL he; refine stepOk_yes (j := 61) (t := 115) (b := true) rfl rfl (he.get 61 115 (by kernel_rfl) rfl) ?_; have e0 : ac.eval (.tmp 116) = .int .i64 351 := (he.get 62 116 (by kernel_rfl) rfl); exact op_callF (vs := #[.int .i64 351]) rfl (by simp only [List.map_toArray, List.map_cons, List.map_nil, e0]) (enters_of Tryz.func11 (by kernel_rfl) rfl) (((rnum_any _ W)).mono fun e W' ⟨he', hw'⟩ => ⟨_, he', hw' ▸ Later.refl _, rfl⟩)
  · exact fun ac W hL he => stepOk_yes (j := 61) (t := 115) (b := true) rfl rfl (he.get 61 115 (by kernel_rfl) rfl) (op_binOp rfl (he.get 63 117 (by kernel_rfl) rfl) rfl (by kernel_rfl) (by kernel_rfl) rfl)
  · exact fun ac W hL he => stepOk_want rfl (op_pick (b := true) rfl (he.get 61 115 (by kernel_rfl) rfl) (he.get 64 118 (by kernel_rfl) rfl))
  · exact fun ac W hL he => stepOk_want rfl (op_move rfl (he.get 65 119 (by kernel_rfl) rfl))
  · exact fun ac W hL he => stepOk_yes (j := 66) (t := 120) (b := true) rfl rfl (he.get 66 120 (by kernel_rfl) rfl) (op_move rfl (he.keep (.tmp 14) (by kernel_rfl)))
  · intro ac W hL he; refine stepOk_yes (j := 66) (t := 120) (b := true) rfl rfl (he.get 66 120 (by kernel_rfl) rfl) ?_; have e0 : ac.eval (.tmp 121) = .int .i64 2 := (he.get 67 121 (by kernel_rfl) rfl); exact op_callF (vs := #[.int .i64 2]) rfl (by simp only [List.map_toArray, List.map_cons, List.map_nil, e0]) (enters_of Tryz.func11 (by kernel_rfl) rfl) (((rnum_any _ W)).mono fun e W' ⟨he', hw'⟩ => ⟨_, he', hw' ▸ Later.refl _, rfl⟩)
  · exact fun ac W hL he => stepOk_yes (j := 66) (t := 120) (b := true) rfl rfl (he.get 66 120 (by kernel_rfl) rfl) (op_binOp rfl (he.get 68 122 (by kernel_rfl) rfl) rfl (by kernel_rfl) (by kernel_rfl) rfl)
  · exact fun ac W hL he => stepOk_want rfl (op_pick (b := true) rfl (he.get 66 120 (by kernel_rfl) rfl) (he.get 69 123 (by kernel_rfl) rfl))
  · exact fun ac W hL he => stepOk_want rfl (op_assign rfl (he.get 70 124 (by kernel_rfl) rfl))
  intro xs W hL hx
  have v71 : xs 71 = .bool true := hx 71 (by decide)
  simp only [List.append_eq, List.cons_append, List.nil_append, putL, Nat.reduceAdd, Act.put, List.setIfInBounds_toArray, List.set_cons_succ, List.set_cons_zero]
  rw [v71]
  clear hx
  go_wp2_with fail
  exact HΦ.out _ _ ⟨rfl, L19.trans (Below.mono hL L19.size)⟩
end Go.Proofs.YtloiaaolnfimgaaGreat
