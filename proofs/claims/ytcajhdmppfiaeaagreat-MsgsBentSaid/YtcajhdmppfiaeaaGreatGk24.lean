/- Walks, msgs: works. -/
import Derived.Test.YtcajhdmppfiaeaaGreatGk23
set_option linter.unusedVariables false
set_option linter.unusedSimpArgs false
namespace Go.Proofs.YtcajhdmppfiaeaaGreat
open Go.RowKit Ms
theorem add00 (W : World) : (binOp .add 3 (.int .i64 0) (.int .i64 0)).run Tryz.prog W = .ok (.int .i64 0) W := by kernel_rfl
theorem eqlII (a : Int) (W : World) : (binOp .eql 3 (.int .i64 a) (.int .i64 a)).run Tryz.prog W = .ok (.bool true) W := by
  have h : (binOp .eql 3 (.int .i64 a) (.int .i64 a)).run Tryz.prog W = .ok (.bool (a == a)) W := by kernel_rfl
  rw [h, beq_self_eq_true]
theorem eqgII {x y : Operand} {a b : Int} {W : World} : (eqGuard .eql 3 x y (.int .i64 a) (.int .i64 b)).run Tryz.prog W = .ok () W := by kernel_rfl
theorem num_n (n : Int) (w : World) (h : 0 ≤ n ∧ n ≤ 1000000) : Calls Tryz.prog 12 #[.int .i64 n] w fun e w' => e = .returned (.int .i64 n) ∧ w' = w := (num_any n w h).mono fun e W' ⟨h1, h2⟩ => ⟨h1, h2.symm⟩
theorem makeZ32 (w : World) : (Instr.makeSlice 32 (.int .i64 32) (.int .i64 32)).run Tryz.prog w = .ok (.slice (some ⟨w.heap.size, 0, none⟩) 32 32) (w.alloc (.cells (Array.replicate 32 (.int .u8 0)) 5)) := by kernel_rfl
theorem op_makeSliceR {P : Program} {Q : Exit → Act → World → Prop} {o : Oper} {a : Act} {W W' : World} {R : Value → World → Prop} {t : TypeId} {x y : Operand} {vx vy v : Value} (ho : o.op = .makeSlice t x y) (hx : a.eval x = vx) (hy : a.eval y = vy) (hr : (Instr.makeSlice t vx vy).run P W = .ok v W') (hL : Later W W') (h : R v W') : o.wp P a W (fun a' W' => ∃ v, a' = a.put o.dst v ∧ Later W W' ∧ R v W') Q := by
  refine op_value (v := v) (W' := W') ?_ hL h
  unfold execOp
  simp only [ho, hx, hy, hr, Sem.run_bind, Sem.run_pure, Result.andThen_ok]
abbrev wz : List UInt8 := List.replicate 32 0
theorem addSS (W : World) : (binOp .add 9 (.string ⟨([7, 1] : List UInt8).toArray⟩) (.string ⟨wz.toArray⟩)).run Tryz.prog W = .ok (.string ⟨([7, 1] ++ wz).toArray⟩) W := by kernel_rfl
theorem wz_len : wz.length = 32 := by simp
theorem wz_row (W : World) : Rd (W.alloc (.cells (Array.replicate 32 (.int .u8 0)) 5)) (some ⟨W.heap.size, 0, none⟩) wz :=
  RdV.bytes (by
    have := RdV.row (vs := wz.map byteV) (t := 5) (g := W.heap.size) (w := W.alloc (.cells (Array.replicate 32 (.int .u8 0)) 5)) (by
      rw [show (wz.map byteV).toArray = Array.replicate 32 (.int .u8 0) from rfl]
      exact Row.new W _ _)
    exact this)
theorem check8 (w : World) : Calls Tryz.prog 13 #[.agg (saidC (Ms.blank 8))] w fun e w' => e = .returned (.int .i64 2) ∧ Later w w' := by
  have := mcheck_any (Ms.blank 8) (blank_wf 8) (by decide) w
  rwa [k_c8] at this
def Pr.rdz : Pr := ⟨fun v W => ∃ b, v = .slice (some ⟨b, 0, none⟩) 32 32 ∧ Rd W (some ⟨b, 0, none⟩) wz, fun _ _ _ ⟨b, e, h⟩ hL => ⟨b, e, h.later hL⟩⟩
theorem rd_row1 (w : World) (x : UInt8) : Rd (w.alloc (.cells #[.int .u8 (x.toNat : Int)] 5)) (some ⟨w.heap.size, 0, none⟩) [x] := RdV.bytes (RdV.row (Row.new w _ _))
theorem rd_row2 (w : World) (x y : UInt8) : Rd (w.alloc (.cells #[.int .u8 (x.toNat : Int), .int .u8 (y.toNat : Int)] 5)) (some ⟨w.heap.size, 0, none⟩) [x, y] := RdV.bytes (RdV.row (Row.new w _ _))
set_option maxRecDepth 100000 in
set_option maxHeartbeats 8000000 in
theorem works_yes (w : World) : Calls Tryz.prog 9 #[] w fun e w' => e = .returned (.bool true) ∧ Below w.heap.size w w' := by
  have hc := mbody_any said7 said7_wf (by decide) w
  rw [k_body.1, k_body.2] at hc
  go_enter Tryz.func9, Tryz.ntmps9
  go_upto_region 2 with (first
    | (guard_target =~ wpList _ _ _ (_ :: _) _ _; refine wpList_build rfl 29 _ rfl #[(0, .int .i64 7), (10, .int .i64 1)] rfl (build7 _) ?_)
    | (go_at_call 10; refine hc.mono ?_; clear hc; rintro e w1 ⟨v1, rfl, hown, hb1⟩; obtain ⟨A1, c1, rfl, h1c, h1m, hr1⟩ := hown.slice)
    | fail)
  clear hown
  have hL2 : Later w1 (w1.alloc (.cells #[.int .u8 5] 5)) := (Later.refl w1).alloc _
  have hc := mparse_any (some ⟨w1.heap.size, 0, none⟩) 1 1 [5] _ rfl (by decide) (rd_row1 w1 5)
  rw [k_p5.1, k_p5.2] at hc
  have HC := Lib.hid hc
  have HL2 := Lib.hid hL2
  clear hc hL2
  go_upto_region 3 with (first
    | (go_at_call 15; refine HC.out.mono ?_; rintro e w2 ⟨rfl, hb2⟩; obtain ⟨w3, hst, x3, hL3⟩ := newSaid w2 (blank_wf 5))
    | (with_reducible refine wpList_alloc rfl 29 rfl (allocSaid _) ?_)
    | (guard_target =~ wpList _ _ _ (_ :: _) _ _; refine wpList_store rfl 29 (.tmp 3) (.tmp 19) rfl (.pointer (some ⟨w2.heap.size, 0, none⟩)) (.agg (saidC (Ms.blank 5))) rfl rfl hst ?_)
    | fail)
  obtain ⟨q3, hq3⟩ : ∃ q, q = w2.heap.size := ⟨_, rfl⟩
  rw [← hq3] at x3 ⊢
  have hN : Later w1 w3 := (Later.step HL2.out hb2).step hL3
  have hr1 := hr1.later hN
  have hb3 : Below w.heap.size w w3 := hb1.trans (hN.below.mono hb1.size)
  clear HC HL2 hst hq3 hL3 hN hb2 hb1
  have hL2 : Later w3 (w3.alloc (.cells #[.int .u8 5, .int .u8 0] 5)) := (Later.refl w3).alloc _
  have hc := mparse_any (some ⟨w3.heap.size, 0, none⟩) 2 2 [5, 0] _ rfl (by decide) (rd_row2 w3 5 0)
  rw [k_p50.1, k_p50.2] at hc
  have HC := Lib.hid hc
  have HL2 := Lib.hid hL2
  clear hc hL2
  go_upto_region 4 with (first
    | (go_at_call 15; refine HC.out.mono ?_; rintro e w4 ⟨rfl, hb2⟩; obtain ⟨w5, hst, x5, hL3⟩ := newSaid w4 (blank_wf 0))
    | (with_reducible refine wpList_alloc rfl 29 rfl (allocSaid _) ?_)
    | (guard_target =~ wpList _ _ _ (_ :: _) _ _; refine wpList_store rfl 29 (.tmp 5) (.tmp 24) rfl (.pointer (some ⟨w4.heap.size, 0, none⟩)) (.agg (saidC (Ms.blank 0))) rfl rfl hst ?_)
    | fail)
  obtain ⟨q5, hq5⟩ : ∃ q, q = w4.heap.size := ⟨_, rfl⟩
  rw [← hq5] at x5 ⊢
  have hN : Later w3 w5 := (Later.step HL2.out hb2).step hL3
  have hr1 := hr1.later hN
  have x3 := x3.later hN
  have hb5 : Below w.heap.size w w5 := hb3.trans (hN.below.mono hb3.size)
  clear HC HL2 hst hq5 hL3 hN hb2 hb3
  have hc := mparse_any none 0 0 [] w5 rfl (by decide) (Rd.nil _ _)
  rw [k_p0.1, k_p0.2] at hc
  have HC := Lib.hid hc
  clear hc
  go_upto_region 5 with (first
    | (go_at_call 15; refine HC.out.mono ?_; rintro e w6 ⟨rfl, hb2⟩; obtain ⟨w7, hst, x7, hL3⟩ := newSaid w6 (blank_wf 0))
    | (with_reducible refine wpList_alloc rfl 29 rfl (allocSaid _) ?_)
    | (guard_target =~ wpList _ _ _ (_ :: _) _ _; refine wpList_store rfl 29 (.tmp 7) (.tmp 28) rfl (.pointer (some ⟨w6.heap.size, 0, none⟩)) (.agg (saidC (Ms.blank 0))) rfl rfl hst ?_)
    | fail)
  obtain ⟨q7, hq7⟩ : ∃ q, q = w6.heap.size := ⟨_, rfl⟩
  rw [← hq7] at x7 ⊢
  have hN : Later w5 w7 := Later.step hb2 hL3
  have hr1 := hr1.later hN
  have x3 := x3.later hN
  have hb7 : Below w.heap.size w w7 := hb5.trans (hN.below.mono hb5.size)
  clear HC hst hq7 hL3 hN hb2 hb5 x5 x7
  have hc := mtext_any 9 w7
  rw [show kName 9 = ⟨#[99, 111, 109, 109, 105, 116]⟩ from rfl, show isKind 9 = true from rfl] at hc
  have HC := Lib.hid hc
  clear hc
  go_upto_region 6 with (first
    | (go_at_call 23; refine HC.out.mono ?_; rintro e w8 ⟨rfl, hb2⟩)
    | fail)
  have hr1 : Rd w8 A1 ([7, 1] ++ wz) := hr1.later hb2
  have x3 := x3.later hb2
  have hb8 : Below w.heap.size w w8 := hb7.trans (hb2.mono hb7.size)
  clear HC hb2 hb7
  refine (wpIn_wide (n := 0)).1 ?_
  refine wpIn_region_last wide_wide [Pr.eq (.int .i64 0), Pr.eq (.int .i64 0), Pr.eq (.int .i64 0), Pr.eq (.int .i64 0), Pr.eq (.int .i64 0), Pr.eq (.bool true), Pr.eq (.bool true), Pr.eq (.slice A1 34 c1), Pr.eq (.string ⟨([7, 1] ++ wz).toArray⟩), Pr.rdz, Pr.eq (.string ⟨wz.toArray⟩), Pr.eq (.string ⟨([7, 1] ++ wz).toArray⟩), Pr.eq (.bool true), Pr.eq (.bool true), Pr.eq (.bool true), Pr.eq (.agg (saidC (Ms.blank 5))), Pr.eq (.agg (saidC (Ms.blank 5))), Pr.eq (.bool true), Pr.eq (.bool true), Pr.eq (.bool true), Pr.eq (.int .i64 210), Pr.eq (.int .i64 210), Pr.eq (.bool true), Pr.eq (.bool true), Pr.eq (.bool true), Pr.eq (.int .i64 210), Pr.eq (.int .i64 210), Pr.eq (.bool true), Pr.eq (.bool true), Pr.eq (.bool true), Pr.eq (.string ⟨#[99, 111, 109, 109, 105, 116]⟩), Pr.eq (.bool true), Pr.eq (.bool true), Pr.eq (.bool true), Pr.eq (.bool true), Pr.eq (.bool true), Pr.eq (.bool true), Pr.eq (.agg (saidC (Ms.blank 8))), Pr.eq (.int .i64 2), Pr.eq (.int .i64 2), Pr.eq (.bool true), Pr.eq (.bool true)] (by kernel_rfl) (by kernel_rfl) (by kernel_rfl) (by kernel_rfl) (by kernel_rfl) (by kernel_rfl) rfl ⟨?_, ?_, ?_, ?_, ?_, ?_, ?_, ?_, ?_, ?_, ?_, ?_, ?_, ?_, ?_, ?_, ?_, ?_, ?_, ?_, ?_, ?_, ?_, ?_, ?_, ?_, ?_, ?_, ?_, ?_, ?_, ?_, ?_, ?_, ?_, ?_, ?_, ?_, ?_, ?_, ?_, ?_, trivial⟩ ?_
  · exact fun ac W hL he => stepOk_want rfl (op_move rfl (he.keep (.tmp 2) (by kernel_rfl)))
  · intro ac W hL he; refine stepOk_want rfl ?_; have e0 : ac.eval (.tmp 34) = .int .i64 0 := (he.get 0 34 (by kernel_rfl) rfl); exact op_callF (vs := #[.int .i64 0]) rfl (by simp only [List.map_toArray, List.map_cons, List.map_nil, e0]) (enters_of Tryz.func12 (by kernel_rfl) rfl) (((num_n 0 W (by decide))).mono fun e W' ⟨he', hw'⟩ => ⟨_, he', hw' ▸ Later.refl _, rfl⟩)
  · exact fun ac W hL he => stepOk_want rfl (op_move rfl (he.keep (.tmp 4) (by kernel_rfl)))
  · intro ac W hL he; refine stepOk_want rfl ?_; have e0 : ac.eval (.tmp 36) = .int .i64 0 := (he.get 2 36 (by kernel_rfl) rfl); exact op_callF (vs := #[.int .i64 0]) rfl (by simp only [List.map_toArray, List.map_cons, List.map_nil, e0]) (enters_of Tryz.func12 (by kernel_rfl) rfl) (((num_n 0 W (by decide))).mono fun e W' ⟨he', hw'⟩ => ⟨_, he', hw' ▸ Later.refl _, rfl⟩)
  · exact fun ac W hL he => stepOk_want rfl (op_binOp rfl (he.get 1 35 (by kernel_rfl) rfl) (he.get 3 37 (by kernel_rfl) rfl) rfl (add00 W) rfl)
  · exact fun ac W hL he => stepOk_want rfl (op_binOp rfl (he.get 4 38 (by kernel_rfl) rfl) rfl eqgII (eqlII 0 W) rfl)
  · exact fun ac W hL he => stepOk_want rfl (op_move rfl (he.get 5 39 (by kernel_rfl) rfl))
  · exact fun ac W hL he => stepOk_yes (j := 6) (t := 40) (b := true) rfl rfl (he.get 6 40 (by kernel_rfl) rfl) (op_move rfl (he.keep (.tmp 1) (by kernel_rfl)))
  · exact fun ac W hL he => stepOk_yes (j := 6) (t := 40) (b := true) rfl rfl (he.get 6 40 (by kernel_rfl) rfl) (op_convert rfl (he.get 7 41 (by kernel_rfl) rfl) (run_string_rd W 32 9 5 A1 34 c1 _ Tryz.underlying32 Tryz.underlying5 Tryz.underlying9 rfl (hr1.later hL)) (Later.refl _) rfl)
  · exact fun ac W hL he => stepOk_yes (j := 6) (t := 40) (b := true) rfl rfl (he.get 6 40 (by kernel_rfl) rfl) (op_makeSliceR rfl rfl rfl (makeZ32 W) ((Later.refl W).alloc _) ⟨_, rfl, wz_row W⟩)
  · intro ac W hL he; refine stepOk_yes (j := 6) (t := 40) (b := true) rfl rfl (he.get 6 40 (by kernel_rfl) rfl) ?_; obtain ⟨b, e43, hz⟩ : ∃ b, ac.eval (.tmp 43) = .slice (some ⟨b, 0, none⟩) 32 32 ∧ Rd W (some ⟨b, 0, none⟩) wz := he.get 9 43 (by kernel_rfl) rfl; exact op_convert rfl e43 (run_string_rd W 32 9 5 _ 32 32 wz Tryz.underlying32 Tryz.underlying5 Tryz.underlying9 wz_len hz) (Later.refl _) rfl
  · exact fun ac W hL he => stepOk_yes (j := 6) (t := 40) (b := true) rfl rfl (he.get 6 40 (by kernel_rfl) rfl) (op_binOp rfl rfl (he.get 10 44 (by kernel_rfl) rfl) rfl (addSS W) rfl)
  · exact fun ac W hL he => stepOk_yes (j := 6) (t := 40) (b := true) rfl rfl (he.get 6 40 (by kernel_rfl) rfl) (op_binOp rfl (he.get 8 42 (by kernel_rfl) rfl) (he.get 11 45 (by kernel_rfl) rfl) eqgS (eqlS_self _ _) rfl)
  · exact fun ac W hL he => stepOk_want rfl (op_pick (b := true) rfl (he.get 6 40 (by kernel_rfl) rfl) (he.get 12 46 (by kernel_rfl) rfl))
  · exact fun ac W hL he => stepOk_want rfl (op_move rfl (he.get 13 47 (by kernel_rfl) rfl))
  · exact fun ac W hL he => stepOk_yes (j := 14) (t := 48) (b := true) rfl rfl (he.get 14 48 (by kernel_rfl) rfl) (op_load rfl (he.keep (.tmp 3) (by kernel_rfl)) (loadSaid (blank_wf 5) (x3.later hL)) rfl)
  · exact fun ac W hL he => stepOk_yes (j := 14) (t := 48) (b := true) rfl rfl (he.get 14 48 (by kernel_rfl) rfl) (op_buildR rfl (by simp only [List.map_toArray, List.map_cons, List.map_nil]; rfl) (build5 W) rfl)
  · exact fun ac W hL he => stepOk_yes (j := 14) (t := 48) (b := true) rfl rfl (he.get 14 48 (by kernel_rfl) rfl) (op_binOp rfl (he.get 15 49 (by kernel_rfl) rfl) (he.get 16 50 (by kernel_rfl) rfl) (by kernel_rfl) ((eqlSaid (blank_wf 5) (blank_wf 5) W).trans (by rw [decide_eq_true rfl])) rfl)
  · exact fun ac W hL he => stepOk_want rfl (op_pick (b := true) rfl (he.get 14 48 (by kernel_rfl) rfl) (he.get 17 51 (by kernel_rfl) rfl))
  · exact fun ac W hL he => stepOk_want rfl (op_move rfl (he.get 18 52 (by kernel_rfl) rfl))
  · exact fun ac W hL he => stepOk_yes (j := 19) (t := 53) (b := true) rfl rfl (he.get 19 53 (by kernel_rfl) rfl) (op_move rfl (he.keep (.tmp 6) (by kernel_rfl)))
  · intro ac W hL he; refine stepOk_yes (j := 19) (t := 53) (b := true) rfl rfl (he.get 19 53 (by kernel_rfl) rfl) ?_; have e0 : ac.eval (.tmp 54) = .int .i64 210 := (he.get 20 54 (by kernel_rfl) rfl); exact op_callF (vs := #[.int .i64 210]) rfl (by simp only [List.map_toArray, List.map_cons, List.map_nil, e0]) (enters_of Tryz.func12 (by kernel_rfl) rfl) (((num_n 210 W (by decide))).mono fun e W' ⟨he', hw'⟩ => ⟨_, he', hw' ▸ Later.refl _, rfl⟩)
  · exact fun ac W hL he => stepOk_yes (j := 19) (t := 53) (b := true) rfl rfl (he.get 19 53 (by kernel_rfl) rfl) (op_binOp rfl (he.get 21 55 (by kernel_rfl) rfl) rfl eqgII (eqlII 210 W) rfl)
  · exact fun ac W hL he => stepOk_want rfl (op_pick (b := true) rfl (he.get 19 53 (by kernel_rfl) rfl) (he.get 22 56 (by kernel_rfl) rfl))
  · exact fun ac W hL he => stepOk_want rfl (op_move rfl (he.get 23 57 (by kernel_rfl) rfl))
  · exact fun ac W hL he => stepOk_yes (j := 24) (t := 58) (b := true) rfl rfl (he.get 24 58 (by kernel_rfl) rfl) (op_move rfl (he.keep (.tmp 8) (by kernel_rfl)))
  · intro ac W hL he; refine stepOk_yes (j := 24) (t := 58) (b := true) rfl rfl (he.get 24 58 (by kernel_rfl) rfl) ?_; have e0 : ac.eval (.tmp 59) = .int .i64 210 := (he.get 25 59 (by kernel_rfl) rfl); exact op_callF (vs := #[.int .i64 210]) rfl (by simp only [List.map_toArray, List.map_cons, List.map_nil, e0]) (enters_of Tryz.func12 (by kernel_rfl) rfl) (((num_n 210 W (by decide))).mono fun e W' ⟨he', hw'⟩ => ⟨_, he', hw' ▸ Later.refl _, rfl⟩)
  · exact fun ac W hL he => stepOk_yes (j := 24) (t := 58) (b := true) rfl rfl (he.get 24 58 (by kernel_rfl) rfl) (op_binOp rfl (he.get 26 60 (by kernel_rfl) rfl) rfl eqgII (eqlII 210 W) rfl)
  · exact fun ac W hL he => stepOk_want rfl (op_pick (b := true) rfl (he.get 24 58 (by kernel_rfl) rfl) (he.get 27 61 (by kernel_rfl) rfl))
  · exact fun ac W hL he => stepOk_want rfl (op_move rfl (he.get 28 62 (by kernel_rfl) rfl))
  · exact fun ac W hL he => stepOk_yes (j := 29) (t := 63) (b := true) rfl rfl (he.get 29 63 (by kernel_rfl) rfl) (op_move rfl (he.keep (.tmp 9) (by kernel_rfl)))
  · exact fun ac W hL he => stepOk_yes (j := 29) (t := 63) (b := true) rfl rfl (he.get 29 63 (by kernel_rfl) rfl) (op_binOp rfl (he.get 30 64 (by kernel_rfl) rfl) rfl eqgS (eqlS_self _ _) rfl)
  · exact fun ac W hL he => stepOk_want rfl (op_pick (b := true) rfl (he.get 29 63 (by kernel_rfl) rfl) (he.get 31 65 (by kernel_rfl) rfl))
  · exact fun ac W hL he => stepOk_want rfl (op_move rfl (he.get 32 66 (by kernel_rfl) rfl))
  · exact fun ac W hL he => stepOk_yes (j := 33) (t := 67) (b := true) rfl rfl (he.get 33 67 (by kernel_rfl) rfl) (op_move rfl (he.keep (.tmp 10) (by kernel_rfl)))
  · exact fun ac W hL he => stepOk_want rfl (op_pick (b := true) rfl (he.get 33 67 (by kernel_rfl) rfl) (he.get 34 68 (by kernel_rfl) rfl))
  · exact fun ac W hL he => stepOk_want rfl (op_move rfl (he.get 35 69 (by kernel_rfl) rfl))
  · exact fun ac W hL he => stepOk_yes (j := 36) (t := 70) (b := true) rfl rfl (he.get 36 70 (by kernel_rfl) rfl) (op_buildR rfl (by simp only [List.map_toArray, List.map_cons, List.map_nil]; rfl) (build8 W) rfl)
  · intro ac W hL he; refine stepOk_yes (j := 36) (t := 70) (b := true) rfl rfl (he.get 36 70 (by kernel_rfl) rfl) ?_; have e0 : ac.eval (.tmp 71) = .agg (saidC (Ms.blank 8)) := (he.get 37 71 (by kernel_rfl) rfl); exact op_callF (vs := #[.agg (saidC (Ms.blank 8))]) rfl (by simp only [List.map_toArray, List.map_cons, List.map_nil, e0]) (enters_of Tryz.func13 (by kernel_rfl) rfl) (((check8 W)).mono fun e W' ⟨he', hb⟩ => ⟨_, he', hb, rfl⟩)
  · intro ac W hL he; refine stepOk_yes (j := 36) (t := 70) (b := true) rfl rfl (he.get 36 70 (by kernel_rfl) rfl) ?_; have e0 : ac.eval (.tmp 72) = .int .i64 2 := (he.get 38 72 (by kernel_rfl) rfl); exact op_callF (vs := #[.int .i64 2]) rfl (by simp only [List.map_toArray, List.map_cons, List.map_nil, e0]) (enters_of Tryz.func12 (by kernel_rfl) rfl) (((num_n 2 W (by decide))).mono fun e W' ⟨he', hw'⟩ => ⟨_, he', hw' ▸ Later.refl _, rfl⟩)
  · exact fun ac W hL he => stepOk_yes (j := 36) (t := 70) (b := true) rfl rfl (he.get 36 70 (by kernel_rfl) rfl) (op_binOp rfl (he.get 39 73 (by kernel_rfl) rfl) rfl eqgII (eqlII 2 W) rfl)
  · exact fun ac W hL he => stepOk_want rfl (op_pick (b := true) rfl (he.get 36 70 (by kernel_rfl) rfl) (he.get 40 74 (by kernel_rfl) rfl))
  intro xs W hL hx hk hgt
  have e75 := hgt 41 75 (by decide) (by kernel_rfl)
  rw [show xs 41 = .bool true from hx 41 (by decide)] at e75
  refine last_assign rfl e75 ?_
  clear hx hk hgt e75
  simp only [initL, lastL, putL, Nat.reduceAdd, Act.put, List.setIfInBounds_toArray, List.set_cons_succ, List.set_cons_zero]
  have HB := Lib.hid (hb8.trans (hL.below.mono hb8.size))
  go_wp2_with fail
  go_ret
  exact ⟨rfl, HB.out⟩
end Go.Proofs.YtcajhdmppfiaeaaGreat
