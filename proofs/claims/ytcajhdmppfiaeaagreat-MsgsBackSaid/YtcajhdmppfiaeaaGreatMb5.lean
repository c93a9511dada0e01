/- Joined texts: Gk24 Gl1 Gl2 Gl3 Gl4 Gl5 Gl6 Gl7 Gl8 Gl9 Gl10 Gl11 Go Gl12 Gl13 Gl14 Gl15 Gl16 Gl17 Gl18 Gn1 Gn2 Gn3 Gn4 Gn5 Gn6 Gn7 Gn8 Gn9 Gn10 Gn11 Gn12 Gp1 Gp2 Gp3 Gp4 Gp6 Gp5. -/
import Derived.Test.YtcajhdmppfiaeaaGreatMb4
import Derived.WalkKit
import Derived.WalkSpells
import Derived.Deep.MidRow
import Derived.Deep.WholeRow
import Derived.Deep.Draws
import Derived.Maps.AppendAt
import Derived.Lib.Hide
import Derived.OwnWalk
import Derived.Laws.IdiomStrings
import Derived.Lib.SlBytesConst
import Derived.Orders
import Derived.Shelf.Abstract
import Derived.OrdersIn
import Derived.RangeFuncCalls
import Derived.RangeFuncNested
import Derived.RangeFuncBound
import Derived.RangeFuncLeaves
import Derived.Shelf.RegionOpen
import Derived.OwnWalkIn
import Derived.TacticsInMore
import Derived.LoopNIn
import Derived.LoopIn
import Derived.WalkMore
import Derived.Test.YtcajhdmppfiaeaaGreatRows
import Derived.ProofKit
import Derived.OpenShut
import Derived.Deep.Slices
import Derived.Deep.Matrix
import Derived.WalkLawsBesides
import Derived.BigRegion
import Derived.BigQuiet
import Derived.Lib.AppendZeros
import Derived.Laws.BitsAllLaws
import Derived.IntWalk
import Derived.Laws.CopyOwn
import Derived.Outline
import Derived.Deep.RegionWith
import Derived.Deep.RegionHeld3
import Derived.Stop.BytesEq
import Derived.ShutString
import Derived.ChangeOld
import Derived.Lib.ConvBytes
import Derived.Recover
import Derived.Defers
import Derived.Deep.Cut
import Derived.Deep.DeepCutAuto
import Derived.Deep.QuietTactic
import Derived.Laws.EntriesVeiled
import Derived.StillTailTactics
import Derived.Maps.OwnOps
import Derived.Lib.QuoteBits
import Derived.Lib.AppendStr
import Derived.Deep.Grids
import Derived.Deep.Strs
import Derived.MapKept
import Derived.Laws.StructEq
import Derived.ChangeKeysEq
import Derived.Stop.Joined
set_option linter.unusedVariables false
set_option linter.unusedSimpArgs false
namespace Go.Proofs.YtcajhdmppfiaeaaGreat
open Go.RowKit Ms
theorem add00 (W : World) : (binOp .add 3 (.int .i64 0) (.int .i64 0)).run Tryz.prog W = .ok (.int .i64 0) W := by kernel_rfl
theorem eqlII (a : Int) (W : World) : (binOp .eql 3 (.int .i64 a) (.int .i64 a)).run Tryz.prog W = .ok (.bool true) W := by
  have h : (binOp .eql 3 (.int .i64 a) (.int .i64 a)).run Tryz.prog W = .ok (.bool (a == a)) W := by kernel_rfl
  rw [h, beq_self_eq_true]
theorem eqgII {x y : Operand} {a b : Int} {W : World} : (eqGuard .eql 3 x y (.int .i64 a) (.int .i64 b)).run Tryz.prog W = .ok () W := by kernel_rfl
theorem num_n (n : Int) (w : World) (h : 0 ≤ n ∧ n ≤ 1000000) : Calls Tryz.prog 12 #[.int .i64 n] w fun e w' => e = .returned (.int .i64 n) ∧ w' = w := (num_any n w h).mono fun e W' ⟨h1, h2⟩ => ⟨h1, h2.symm⟩
theorem makeZ32 (w : World) : (Instr.makeSlice 32 (.int .i64 32) (.int .i64 32)).run Tryz.prog w = .ok (.slice (some ⟨w.heap.size, 0, none⟩) 32 32) (w.alloc (.cells (Array.replicate 32 (.int .u8 0)) 5)) := by kernel_rfl
theorem op_makeSliceR {P : Program} {Q : Exit → Act → World → Prop} {o : Oper} {a : Act} {W W' : World} {R : Value → World → Prop} {t : TypeId} {x y : Operand} {vx vy v : Value} (ho : o.op = .makeSlice t x y) (hx : a.eval x = vx) (hy : a.eval y = vy) (hr : (Instr.makeSlice t vx vy).run P W = .ok v W') (hL : Later W W') (h : R v W') : o.wp P a W (fun a' W' => ∃ v, a' = a.put o.dst v ∧ Later W W' ∧ R v W') Q := by
  refine op_value (v := v) (W' := W') ?_ hL h
  unfold execOp
  simp only [ho, hx, hy, hr, Sem.run_bind, Sem.run_pure, Result.andThen_ok]
abbrev wz : List UInt8 := List.replicate 32 0
theorem addSS (W : World) : (binOp .add 9 (.string ⟨([7, 1] : List UInt8).toArray⟩) (.string ⟨wz.toArray⟩)).run Tryz.prog W = .ok (.string ⟨([7, 1] ++ wz).toArray⟩) W := by kernel_rfl
theorem wz_len : wz.length = 32 := by simp
theorem wz_row (W : World) : Rd (W.alloc (.cells (Array.replicate 32 (.int .u8 0)) 5)) (some ⟨W.heap.size, 0, none⟩) wz :=
  RdV.bytes (by
    have := RdV.row (vs := wz.map byteV) (t := 5) (g := W.heap.size) (w := W.alloc (.cells (Array.replicate 32 (.int .u8 0)) 5)) (by
      rw [show (wz.map byteV).toArray = Array.replicate 32 (.int .u8 0) from rfl]
      exact Row.new W _ _)
    exact this)
theorem check8 (w : World) : Calls Tryz.prog 13 #[.agg (saidC (Ms.blank 8))] w fun e w' => e = .returned (.int .i64 2) ∧ Later w w' := by
  have := mcheck_any (Ms.blank 8) (blank_wf 8) (by decide) w
  rwa [k_c8] at this
def Pr.rdz : Pr := ⟨fun v W => ∃ b, v = .slice (some ⟨b, 0, none⟩) 32 32 ∧ Rd W (some ⟨b, 0, none⟩) wz, fun _ _ _ ⟨b, e, h⟩ hL => ⟨b, e, h.later hL⟩⟩
theorem rd_row1 (w : World) (x : UInt8) : Rd (w.alloc (.cells #[.int .u8 (x.toNat : Int)] 5)) (some ⟨w.heap.size, 0, none⟩) [x] := RdV.bytes (RdV.row (Row.new w _ _))
theorem rd_row2 (w : World) (x y : UInt8) : Rd (w.alloc (.cells #[.int .u8 (x.toNat : Int), .int .u8 (y.toNat : Int)] 5)) (some ⟨w.heap.size, 0, none⟩) [x, y] := RdV.bytes (RdV.row (Row.new w _ _))
set_option maxRecDepth 100000 in
set_option maxHeartbeats 8000000 in
theorem works_yes (w : World) : Calls Tryz.prog 9 #[] w fun e w' => e = .returned (.bool true) ∧ Below w.heap.size w w' := by
  have hc := mbody_any said7 said7_wf (by decide) w
  rw [k_body.1, k_body.2] at hc
  go_enter Tryz.func9, Tryz.ntmps9
  go_upto_region 2 with (first
    | (guard_target =~ wpList _ _ _ (_ :: _) _ _; refine wpList_build rfl 29 _ rfl #[(0, .int .i64 7), (10, .int .i64 1)] rfl (build7 _) ?_)
    | (go_at_call 10; refine hc.mono ?_; clear hc; rintro e w1 ⟨v1, rfl, hown, hb1⟩; obtain ⟨A1, c1, rfl, h1c, h1m, hr1⟩ := hown.slice)
    | fail)
  clear hown
  have hL2 : Later w1 (w1.alloc (.cells #[.int .u8 5] 5)) := (Later.refl w1).alloc _
  have hc := mparse_any (some ⟨w1.heap.size, 0, none⟩) 1 1 [5] _ rfl (by decide) (rd_row1 w1 5)
  rw [k_p5.1, k_p5.2] at hc
  have HC := Lib.hid hc
  have HL2 := Lib.hid hL2
  clear hc hL2
  go_upto_region 3 with (first
    | (go_at_call 15; refine HC.out.mono ?_; rintro e w2 ⟨rfl, hb2⟩; obtain ⟨w3, hst, x3, hL3⟩ := newSaid w2 (blank_wf 5))
    | (with_reducible refine wpList_alloc rfl 29 rfl (allocSaid _) ?_)
    | (guard_target =~ wpList _ _ _ (_ :: _) _ _; refine wpList_store rfl 29 (.tmp 3) (.tmp 19) rfl (.pointer (some ⟨w2.heap.size, 0, none⟩)) (.agg (saidC (Ms.blank 5))) rfl rfl hst ?_)
    | fail)
  obtain ⟨q3, hq3⟩ : ∃ q, q = w2.heap.size := ⟨_, rfl⟩
  rw [← hq3] at x3 ⊢
  have hN : Later w1 w3 := (Later.step HL2.out hb2).step hL3
  have hr1 := hr1.later hN
  have hb3 : Below w.heap.size w w3 := hb1.trans (hN.below.mono hb1.size)
  clear HC HL2 hst hq3 hL3 hN hb2 hb1
  have hL2 : Later w3 (w3.alloc (.cells #[.int .u8 5, .int .u8 0] 5)) := (Later.refl w3).alloc _
  have hc := mparse_any (some ⟨w3.heap.size, 0, none⟩) 2 2 [5, 0] _ rfl (by decide) (rd_row2 w3 5 0)
  rw [k_p50.1, k_p50.2] at hc
  have HC := Lib.hid hc
  have HL2 := Lib.hid hL2
  clear hc hL2
  go_upto_region 4 with (first
    | (go_at_call 15; refine HC.out.mono ?_; rintro e w4 ⟨rfl, hb2⟩; obtain ⟨w5, hst, x5, hL3⟩ := newSaid w4 (blank_wf 0))
    | (with_reducible refine wpList_alloc rfl 29 rfl (allocSaid _) ?_)
    | (guard_target =~ wpList _ _ _ (_ :: _) _ _; refine wpList_store rfl 29 (.tmp 5) (.tmp 24) rfl (.pointer (some ⟨w4.heap.size, 0, none⟩)) (.agg (saidC (Ms.blank 0))) rfl rfl hst ?_)
    | fail)
  obtain ⟨q5, hq5⟩ : ∃ q, q = w4.heap.size := ⟨_, rfl⟩
  rw [← hq5] at x5 ⊢
  have hN : Later w3 w5 := (Later.step HL2.out hb2).step hL3
  have hr1 := hr1.later hN
  have x3 := x3.later hN
  have hb5 : Below w.heap.size w w5 := hb3.trans (hN.below.mono hb3.size)
  clear HC HL2 hst hq5 hL3 hN hb2 hb3
  have hc := mparse_any none 0 0 [] w5 rfl (by decide) (Rd.nil _ _)
  rw [k_p0.1, k_p0.2] at hc
  have HC := Lib.hid hc
  clear hc
  go_upto_region 5 with (first
    | (go_at_call 15; refine HC.out.mono ?_; rintro e w6 ⟨rfl, hb2⟩; obtain ⟨w7, hst, x7, hL3⟩ := newSaid w6 (blank_wf 0))
    | (with_reducible refine wpList_alloc rfl 29 rfl (allocSaid _) ?_)
    | (guard_target =~ wpList _ _ _ (_ :: _) _ _; refine wpList_store rfl 29 (.tmp 7) (.tmp 28) rfl (.pointer (some ⟨w6.heap.size, 0, none⟩)) (.agg (saidC (Ms.blank 0))) rfl rfl hst ?_)
    | fail)
  obtain ⟨q7, hq7⟩ : ∃ q, q = w6.heap.size := ⟨_, rfl⟩
  rw [← hq7] at x7 ⊢
  have hN : Later w5 w7 := Later.step hb2 hL3
  have hr1 := hr1.later hN
  have x3 := x3.later hN
  have hb7 : Below w.heap.size w w7 := hb5.trans (hN.below.mono hb5.size)
  clear HC hst hq7 hL3 hN hb2 hb5 x5 x7
  have hc := mtext_any 9 w7
  rw [show kName 9 = ⟨#[99, 111, 109, 109, 105, 116]⟩ from rfl, show isKind 9 = true from rfl] at hc
  have HC := Lib.hid hc
  clear hc
  go_upto_region 6 with (first
    | (go_at_call 23; refine HC.out.mono ?_; rintro e w8 ⟨rfl, hb2⟩)
    | fail)
  have hr1 : Rd w8 A1 ([7, 1] ++ wz) := hr1.later hb2
  have x3 := x3.later hb2
  have hb8 : Below w.heap.size w w8 := hb7.trans (hb2.mono hb7.size)
  clear HC hb2 hb7
  refine (wpIn_wide (n := 0)).1 ?_
  refine wpIn_region_last wide_wide [Pr.eq (.int .i64 0), Pr.eq (.int .i64 0), Pr.eq (.int .i64 0), Pr.eq (.int .i64 0), Pr.eq (.int .i64 0), Pr.eq (.bool true), Pr.eq (.bool true), Pr.eq (.slice A1 34 c1), Pr.eq (.string ⟨([7, 1] ++ wz).toArray⟩), Pr.rdz, Pr.eq (.string ⟨wz.toArray⟩), Pr.eq (.string ⟨([7, 1] ++ wz).toArray⟩), Pr.eq (.bool true), Pr.eq (.bool true), Pr.eq (.bool true), Pr.eq (.agg (saidC (Ms.blank 5))), Pr.eq (.agg (saidC (Ms.blank 5))), Pr.eq (.bool true), Pr.eq (.bool true), Pr.eq (.bool true), Pr.eq (.int .i64 210), Pr.eq (.int .i64 210), Pr.eq (.bool true), Pr.eq (.bool true), Pr.eq (.bool true), Pr.eq (.int .i64 210), Pr.eq (.int .i64 210), Pr.eq (.bool true), Pr.eq (.bool true), Pr.eq (.bool true), Pr.eq (.string ⟨#[99, 111, 109, 109, 105, 116]⟩), Pr.eq (.bool true), Pr.eq (.bool true), Pr.eq (.bool true), Pr.eq (.bool true), Pr.eq (.bool true), Pr.eq (.bool true), Pr.eq (.agg (saidC (Ms.blank 8))), Pr.eq (.int .i64 2), Pr.eq (.int .i64 2), Pr.eq (.bool true), Pr.eq (.bool true)] (by kernel_rfl) (by kernel_rfl) (by kernel_rfl) (by kernel_rfl) (by kernel_rfl) (by kernel_rfl) rfl ⟨?_, ?_, ?_, ?_, ?_, ?_, ?_, ?_, ?_, ?_, ?_, ?_, ?_, ?_, ?_, ?_, ?_, ?_, ?_, ?_, ?_, ?_, ?_, ?_, ?_, ?_, ?_, ?_, ?_, ?_, ?_, ?_, ?_, ?_, ?_, ?_, ?_, ?_, ?_, ?_, ?_, ?_, trivial⟩ ?_
  · exact fun ac W hL he => stepOk_want rfl (op_move rfl (he.keep (.tmp 2) (by kernel_rfl)))
  · intro ac W hL he; refine stepOk_want rfl ?_; have e0 : ac.eval (.tmp 34) = .int .i64 0 := (he.get 0 34 (by kernel_rfl) rfl); exact op_callF (vs := #[.int .i64 0]) rfl (by simp only [List.map_toArray, List.map_cons, List.map_nil, e0]) (enters_of Tryz.func12 (by kernel_rfl) rfl) (((num_n 0 W (by decide))).mono fun e W' ⟨he', hw'⟩ => ⟨_, he', hw' ▸ Later.refl _, rfl⟩)
  · exact fun ac W hL he => stepOk_want rfl (op_move rfl (he.keep (.tmp 4) (by kernel_rfl)))
  · intro ac W hL he; refine stepOk_want rfl ?_; have e0 : ac.eval (.tmp 36) = .int .i64 0 := (he.get 2 36 (by kernel_rfl) rfl); exact op_callF (vs := #[.int .i64 0]) rfl (by simp only [List.map_toArray, List.map_cons, List.map_nil, e0]) (enters_of Tryz.func12 (by kernel_rfl) rfl) (((num_n 0 W (by decide))).mono fun e W' ⟨he', hw'⟩ => ⟨_, he', hw' ▸ Later.refl _, rfl⟩)
  · exact fun ac W hL he => stepOk_want rfl (op_binOp rfl (he.get 1 35 (by kernel_rfl) rfl) (he.get 3 37 (by kernel_rfl) rfl) rfl (add00 W) rfl)
  · exact fun ac W hL he => stepOk_want rfl (op_binOp rfl (he.get 4 38 (by kernel_rfl) rfl) rfl eqgII (eqlII 0 W) rfl)
  · exact fun ac W hL he => stepOk_want rfl (op_move rfl (he.get 5 39 (by kernel_rfl) rfl))
  · exact fun ac W hL he => stepOk_yes (j := 6) (t := 40) (b := true) rfl rfl (he.get 6 40 (by kernel_rfl) rfl) (op_move rfl (he.keep (.tmp 1) (by kernel_rfl)))
  · exact fun ac W hL he => stepOk_yes (j := 6) (t := 40) (b := true) rfl rfl (he.get 6 40 (by kernel_rfl) rfl) (op_convert rfl (he.get 7 41 (by kernel_rfl) rfl) (run_string_rd W 32 9 5 A1 34 c1 _ Tryz.underlying32 Tryz.underlying5 Tryz.underlying9 rfl (hr1.later hL)) (Later.refl _) rfl)
  · exact fun ac W hL he => stepOk_yes (j := 6) (t := 40) (b := true) rfl rfl (he.get 6 40 (by kernel_rfl) rfl) (op_makeSliceR rfl rfl rfl (makeZ32 W) ((Later.refl W).alloc _) ⟨_, rfl, wz_row W⟩)
  · intro ac W hL he; refine stepOk_yes (j := 6) (t := 40) (b := true) rfl rfl (he.get 6 40 (by kernel_rfl) rfl) ?_; obtain ⟨b, e43, hz⟩ : ∃ b, ac.eval (.tmp 43) = .slice (some ⟨b, 0, none⟩) 32 32 ∧ Rd W (some ⟨b, 0, none⟩) wz := he.get 9 43 (by kernel_rfl) rfl; exact op_convert rfl e43 (run_string_rd W 32 9 5 _ 32 32 wz Tryz.underlying32 Tryz.underlying5 Tryz.underlying9 wz_len hz) (Later.refl _) rfl
  · exact fun ac W hL he => stepOk_yes (j := 6) (t := 40) (b := true) rfl rfl (he.get 6 40 (by kernel_rfl) rfl) (op_binOp rfl rfl (he.get 10 44 (by kernel_rfl) rfl) rfl (addSS W) rfl)
  · exact fun ac W hL he => stepOk_yes (j := 6) (t := 40) (b := true) rfl rfl (he.get 6 40 (by kernel_rfl) rfl) (op_binOp rfl (he.get 8 42 (by kernel_rfl) rfl) (he.get 11 45 (by kernel_rfl) rfl) eqgS (eqlS_self _ _) rfl)
  · exact fun ac W hL he => stepOk_want rfl (op_pick (b := true) rfl (he.get 6 40 (by kernel_rfl) rfl) (he.get 12 46 (by kernel_rfl) rfl))
  · exact fun ac W hL he => stepOk_want rfl (op_move rfl (he.get 13 47 (by kernel_rfl) rfl))
  · exact fun ac W hL he => stepOk_yes (j := 14) (t := 48) (b := true) rfl rfl (he.get 14 48 (by kernel_rfl) rfl) (op_load rfl (he.keep (.tmp 3) (by kernel_rfl)) (loadSaid (blank_wf 5) (x3.later hL)) rfl)
  · exact fun ac W hL he => stepOk_yes (j := 14) (t := 48) (b := true) rfl rfl (he.get 14 48 (by kernel_rfl) rfl) (op_buildR rfl (by simp only [List.map_toArray, List.map_cons, List.map_nil]; rfl) (build5 W) rfl)
  · exact fun ac W hL he => stepOk_yes (j := 14) (t := 48) (b := true) rfl rfl (he.get 14 48 (by kernel_rfl) rfl) (op_binOp rfl (he.get 15 49 (by kernel_rfl) rfl) (he.get 16 50 (by kernel_rfl) rfl) (by kernel_rfl) ((eqlSaid (blank_wf 5) (blank_wf 5) W).trans (by rw [decide_eq_true rfl])) rfl)
  · exact fun ac W hL he => stepOk_want rfl (op_pick (b := true) rfl (he.get 14 48 (by kernel_rfl) rfl) (he.get 17 51 (by kernel_rfl) rfl))
  · exact fun ac W hL he => stepOk_want rfl (op_move rfl (he.get 18 52 (by kernel_rfl) rfl))
  · exact fun ac W hL he => stepOk_yes (j := 19) (t := 53) (b := true) rfl rfl (he.get 19 53 (by kernel_rfl) rfl) (op_move rfl (he.keep (.tmp 6) (by kernel_rfl)))
  · intro ac W hL he; refine stepOk_yes (j := 19) (t := 53) (b := true) rfl rfl (he.get 19 53 (by kernel_rfl) rfl) ?_; have e0 : ac.eval (.tmp 54) = .int .i64 210 := (he.get 20 54 (by kernel_rfl) rfl); exact op_callF (vs := #[.int .i64 210]) rfl (by simp only [List.map_toArray, List.map_cons, List.map_nil, e0]) (enters_of Tryz.func12 (by kernel_rfl) rfl) (((num_n 210 W (by decide))).mono fun e W' ⟨he', hw'⟩ => ⟨_, he', hw' ▸ Later.refl _, rfl⟩)
  · exact fun ac W hL he => stepOk_yes (j := 19) (t := 53) (b := true) rfl rfl (he.get 19 53 (by kernel_rfl) rfl) (op_binOp rfl (he.get 21 55 (by kernel_rfl) rfl) rfl eqgII (eqlII 210 W) rfl)
  · exact fun ac W hL he => stepOk_want rfl (op_pick (b := true) rfl (he.get 19 53 (by kernel_rfl) rfl) (he.get 22 56 (by kernel_rfl) rfl))
  · exact fun ac W hL he => stepOk_want rfl (op_move rfl (he.get 23 57 (by kernel_rfl) rfl))
  · exact fun ac W hL he => stepOk_yes (j := 24) (t := 58) (b := true) rfl rfl (he.get 24 58 (by kernel_rfl) rfl) (op_move rfl (he.keep (.tmp 8) (by kernel_rfl)))
  · intro ac W hL he; refine stepOk_yes (j := 24) (t := 58) (b := true) rfl rfl (he.get 24 58 (by kernel_rfl) rfl) ?_; have e0 : ac.eval (.tmp 59) = .int .i64 210 := (he.get 25 59 (by kernel_rfl) rfl); exact op_callF (vs := #[.int .i64 210]) rfl (by simp only [List.map_toArray, List.map_cons, List.map_nil, e0]) (enters_of Tryz.func12 (by kernel_rfl) rfl) (((num_n 210 W (by decide))).mono fun e W' ⟨he', hw'⟩ => ⟨_, he', hw' ▸ Later.refl _, rfl⟩)
  · exact fun ac W hL he => stepOk_yes (j := 24) (t := 58) (b := true) rfl rfl (he.get 24 58 (by kernel_rfl) rfl) (op_binOp rfl (he.get 26 60 (by kernel_rfl) rfl) rfl eqgII (eqlII 210 W) rfl)
  · exact fun ac W hL he => stepOk_want rfl (op_pick (b := true) rfl (he.get 24 58 (by kernel_rfl) rfl) (he.get 27 61 (by kernel_rfl) rfl))
  · exact fun ac W hL he => stepOk_want rfl (op_move rfl (he.get 28 62 (by kernel_rfl) rfl))
  · exact fun ac W hL he => stepOk_yes (j := 29) (t := 63) (b := true) rfl rfl (he.get 29 63 (by kernel_rfl) rfl) (op_move rfl (he.keep (.tmp 9) (by kernel_rfl)))
  · exact fun ac W hL he => stepOk_yes (j := 29) (t := 63) (b := true) rfl rfl (he.get 29 63 (by kernel_rfl) rfl) (op_binOp rfl (he.get 30 64 (by kernel_rfl) rfl) rfl eqgS (eqlS_self _ _) rfl)
  · exact fun ac W hL he => stepOk_want rfl (op_pick (b := true) rfl (he.get 29 63 (by kernel_rfl) rfl) (he.get 31 65 (by kernel_rfl) rfl))
  · exact fun ac W hL he => stepOk_want rfl (op_move rfl (he.get 32 66 (by kernel_rfl) rfl))
  · exact fun ac W hL he => stepOk_yes (j := 33) (t := 67) (b := true) rfl rfl (he.get 33 67 (by kernel_rfl) rfl) (op_move rfl (he.keep (.tmp 10) (by kernel_rfl)))
  · exact fun ac W hL he => stepOk_want rfl (op_pick (b := true) rfl (he.get 33 67 (by kernel_rfl) rfl) (he.get 34 68 (by kernel_rfl) rfl))
  · exact fun ac W hL he => stepOk_want rfl (op_move rfl (he.get 35 69 (by kernel_rfl) rfl))
  · exact fun ac W hL he => stepOk_yes (j := 36) (t := 70) (b := true) rfl rfl (he.get 36 70 (by kernel_rfl) rfl) (op_buildR rfl (by simp only [List.map_toArray, List.map_cons, List.map_nil]; rfl) (build8 W) rfl)
  · intro ac W hL he; refine stepOk_yes (j := 36) (t := 70) (b := true) rfl rfl (he.get 36 70 (by kernel_rfl) rfl) ?_; have e0 : ac.eval (.tmp 71) = .agg (saidC (Ms.blank 8)) := (he.get 37 71 (by kernel_rfl) rfl); exact op_callF (vs := #[.agg (saidC (Ms.blank 8))]) rfl (by simp only [List.map_toArray, List.map_cons, List.map_nil, e0]) (enters_of Tryz.func13 (by kernel_rfl) rfl) (((check8 W)).mono fun e W' ⟨he', hb⟩ => ⟨_, he', hb, rfl⟩)
  · intro ac W hL he; refine stepOk_yes (j := 36) (t := 70) (b := true) rfl rfl (he.get 36 70 (by kernel_rfl) rfl) ?_; have e0 : ac.eval (.tmp 72) = .int .i64 2 := (he.get 38 72 (by kernel_rfl) rfl); exact op_callF (vs := #[.int .i64 2]) rfl (by simp only [List.map_toArray, List.map_cons, List.map_nil, e0]) (enters_of Tryz.func12 (by kernel_rfl) rfl) (((num_n 2 W (by decide))).mono fun e W' ⟨he', hw'⟩ => ⟨_, he', hw' ▸ Later.refl _, rfl⟩)
  · exact fun ac W hL he => stepOk_yes (j := 36) (t := 70) (b := true) rfl rfl (he.get 36 70 (by kernel_rfl) rfl) (op_binOp rfl (he.get 39 73 (by kernel_rfl) rfl) rfl eqgII (eqlII 2 W) rfl)
  · exact fun ac W hL he => stepOk_want rfl (op_pick (b := true) rfl (he.get 36 70 (by kernel_rfl) rfl) (he.get 40 74 (by kernel_rfl) rfl))
  intro xs W hL hx hk hgt
  have e75 := hgt 41 75 (by decide) (by kernel_rfl)
  rw [show xs 41 = .bool true from hx 41 (by decide)] at e75
  refine last_assign rfl e75 ?_
  clear hx hk hgt e75
  simp only [initL, lastL, putL, Nat.reduceAdd, Act.put, List.setIfInBounds_toArray, List.set_cons_succ, List.set_cons_zero]
  have HB := Lib.hid (hb8.trans (hL.below.mono hb8.size))
  go_wp2_with fail
  go_ret
  exact ⟨rfl, HB.out⟩
end Go.Proofs.YtcajhdmppfiaeaaGreat
namespace Go.Proofs.YtcajhdmppfiaeaaGreat
open Go.RowKit Ms
end Go.Proofs.YtcajhdmppfiaeaaGreat
namespace Go.Proofs.YtcajhdmppfiaeaaGreat
open Go.RowKit Ms
end Go.Proofs.YtcajhdmppfiaeaaGreat
namespace Go.Proofs.YtcajhdmppfiaeaaGreat
open Go.RowKit
section
variable {P : Program} {Q : Exit → Act → World → Prop}
structure EnvC (ops : Array Oper) (a0 : Act) (c : Nat → Value) (so : List Nat) (i : Nat) (a : Act) : Prop where
  keep : ∀ y, keepsB ops i y = true → a.eval y = a0.eval y
  val : ∀ j t, waits ops i j = true → dstOf ops j = some t → so.contains j = false → a.eval (.tmp t) = c j
  defers : a.defers = a0.defers
def ChStep (P : Program) (ops : Array Oper) (Q : Exit → Act → World → Prop) (a0 : Act) (c : Nat → Value) (so : List Nat) (A : Nat → World → Prop) (i : Nat) (o : Oper) : Prop :=
  match so.idxOf? i with
  | some k => (k = 0 ∨ waits ops i (so.getD (k - 1) 0) = true) ∧ ∀ a W, EnvC ops a0 c so i a → A k W → o.guard = none ∧ o.wp P a W (fun a' W' => ∃ v, a' = a.put o.dst v ∧ A (k + 1) W') Q
  | none => ∀ a W m, EnvC ops a0 c so i a → A m W → StepOk P ops Q o a W (fun v _ => v = c i)
theorem chStep_val {ops : Array Oper} {a0 : Act} {c : Nat → Value} {so : List Nat} {A : Nat → World → Prop} {i : Nat} {o : Oper} (h : so.idxOf? i = none) (hs : ∀ a W m, EnvC ops a0 c so i a → A m W → StepOk P ops Q o a W (fun v _ => v = c i)) : ChStep P ops Q a0 c so A i o := by
  unfold ChStep
  rw [h]
  exact hs
theorem chStep_put {ops : Array Oper} {a0 : Act} {c : Nat → Value} {so : List Nat} {A : Nat → World → Prop} {i k : Nat} {o : Oper} (h : so.idxOf? i = some k) (hw : k = 0 ∨ waits ops i (so.getD (k - 1) 0) = true) (hs : ∀ a W, EnvC ops a0 c so i a → A k W → o.guard = none ∧ o.wp P a W (fun a' W' => ∃ v, a' = a.put o.dst v ∧ A (k + 1) W') Q) : ChStep P ops Q a0 c so A i o := by
  unfold ChStep
  rw [h]
  exact ⟨hw, hs⟩
theorem idxOf_getD {so : List Nat} {i k : Nat} (h : so.idxOf? i = some k) : k < so.length ∧ so.getD k 0 = i := by
  unfold List.idxOf? at h
  rw [List.findIdx?_eq_some_iff_getElem] at h
  obtain ⟨hk, h1, _⟩ := h
  refine ⟨hk, ?_⟩
  rw [List.getD_eq_getElem?_getD, List.getElem?_eq_getElem hk]
  simpa using h1
theorem idxOf_none {so : List Nat} {i : Nat} (h : so.idxOf? i = none) (k : Nat) (hk : k < so.length) : so.getD k 0 ≠ i := by
  unfold List.idxOf? at h
  rw [List.findIdx?_eq_none_iff] at h
  have := h so[k] (List.getElem_mem hk)
  rw [List.getD_eq_getElem?_getD, List.getElem?_eq_getElem hk]
  simpa using this
theorem wpIn_region_chain {F : Fence} (hF : Wide F) {n : Nat} {id : Nat} {o : Oper} {os : List Oper} {a0 : Act} {w : World} (cs : List Value) (so : List Nat) (A : Nat → World → Prop) (hA : ∀ m W W', Later W W' → A m W → A m W') (hA0 : A 0 w)
    (hm : P.follows .mixedOrders = true) (hp : plainAll (o :: os).toArray = true) (hd : dstsB (o :: os).toArray = true) (hb : backB (o :: os).toArray = true) (ha : ancB (o :: os).toArray = true) (hin : dstIn (o :: os).toArray a0.tmps.size = true) (hg : (lastL o os).guard = none)
    (hnd : so.Nodup) (hso : (so.all fun i => decide (i < (initL o os).length)) = true)
    (step : AllFrom (ChStep P (o :: os).toArray Q a0 (fun i => cs.getD i undef) so A) 0 (initL o os))
    (fin : ∀ xs W, A so.length W → (∀ j, j < (initL o os).length → so.contains j = false → xs j = cs.getD j undef) → (∀ y, keepsB (o :: os).toArray (initL o os).length y = true → (putL (initL o os) 0 xs a0).eval y = a0.eval y) → (∀ j t, j < (initL o os).length → dstOf (o :: os).toArray j = some t → (putL (initL o os) 0 xs a0).eval (.tmp t) = xs j) →
      LastOk P (lastL o os) (putL (initL o os) 0 xs a0) W Q) : (Code.region id (o :: os).toArray true).wpIn F n P Q a0 w := by
  refine wpIn_region_lastY hF (fun f xs W => (∀ i, f i = true → so.contains i = false → xs i = cs.getD i undef) ∧ ∃ m, m ≤ so.length ∧ (∀ k, k < so.length → f (so.getD k 0) = decide (k < m)) ∧ A m W) ⟨fun i h => by simp at h, 0, Nat.zero_le _, fun k _ => by simp, hA _ _ _ ((Later.refl w).drew) hA0⟩ hm hp hd hb ha hin hg ?_ ?_
  · have key : ∀ (l : List Oper) (i : Nat), AllFrom (ChStep P (o :: os).toArray Q a0 (fun i => cs.getD i undef) so A) i l → AllFrom (fun i o' => ∀ a W f xs, ((∀ i, f i = true → so.contains i = false → xs i = cs.getD i undef) ∧ ∃ m, m ≤ so.length ∧ (∀ k, k < so.length → f (so.getD k 0) = decide (k < m)) ∧ A m W) → EnvY (o :: os).toArray a0 f i a xs →
        StepOkY P (o :: os).toArray Q o' a W (fun v W' => (∀ j, updB f i j = true → so.contains j = false → upd xs i v j = cs.getD j undef) ∧ ∃ m, m ≤ so.length ∧ (∀ k, k < so.length → updB f i (so.getD k 0) = decide (k < m)) ∧ A m W')) i l := by
      intro l
      induction l with
      | nil => intro i h; exact h
      | cons o' l ih =>
        intro i h
        obtain ⟨h1, h2⟩ := h
        refine ⟨fun a W f xs hI he => ?_, ih _ h2⟩
        obtain ⟨hc, m, hml, hfm, hAm⟩ := hI
        have henv : EnvC (o :: os).toArray a0 (fun i => cs.getD i undef) so i a := ⟨he.keep, fun j t hw ht hj => (he.val j t hw ht).trans (hc j (he.done j hw) hj), he.defers⟩
        unfold ChStep at h1
        cases hk : so.idxOf? i with
        | some k =>
          rw [hk] at h1
          obtain ⟨hw, h3⟩ := h1
          obtain ⟨hkl, hki⟩ := idxOf_getD hk
          have e1 : ¬ k < m := by
            have := hfm k hkl
            rw [hki, he.todo] at this
            intro h
            rw [decide_eq_true h] at this
            cases this
          have e2 : k ≤ m := by
            rcases hw with h | h
            · omega
            · by_cases h0 : k = 0
              · omega
              have h4 := he.done _ h
              rw [hfm (k - 1) (by omega)] at h4
              have := of_decide_eq_true h4
              omega
          obtain rfl : k = m := by omega
          obtain ⟨hg', h4⟩ := h3 a W henv hAm
          have hsc : so.contains i = true := by
            rw [List.contains_iff_mem, ← hki, List.getD_eq_getElem?_getD, List.getElem?_eq_getElem hkl]
            exact List.getElem_mem hkl
          refine stepOkY_want hg' (Oper.wp_mono (fun a' W' ⟨v, e, hv⟩ => ⟨v, e, fun j hj hjs => ?_, k + 1, hkl, fun k' hk' => ?_, hv⟩) h4)
          · have hji : j ≠ i := fun e => by rw [e, hsc] at hjs; cases hjs
            rw [upd_ne xs v hji]
            exact hc j (by simpa [updB, hji] using hj) hjs
          · by_cases e : k' = k
            · subst e
              rw [hki]
              simp [updB]
            · have hne : so.getD k' 0 ≠ i := fun e3 => e (by
                rw [← hki, List.getD_eq_getElem?_getD, List.getD_eq_getElem?_getD, List.getElem?_eq_getElem hkl, List.getElem?_eq_getElem hk'] at e3
                exact (List.getElem_inj hnd).1 e3)
              have := hfm k' hk'
              simp only [updB, if_neg hne, this]
              exact decide_eq_decide.2 (by omega)
        | none =>
          rw [hk] at h1
          have h4 := h1 a W m henv hAm
          have hR : ∀ v W', Later W W' → v = cs.getD i undef → (∀ j, updB f i j = true → so.contains j = false → upd xs i v j = cs.getD j undef) ∧ ∃ m, m ≤ so.length ∧ (∀ k, k < so.length → updB f i (so.getD k 0) = decide (k < m)) ∧ A m W' := fun v W' hL hv => by
            refine ⟨fun j hj hjs => ?_, m, hml, fun k hkl => ?_, hA _ _ _ hL hAm⟩
            · by_cases e : j = i
              · subst e; rw [upd_self]; exact hv
              · rw [upd_ne xs v e]
                exact hc j (by simpa [updB, e] using hj) hjs
            · have hne := idxOf_none hk k hkl
              simp only [updB, if_neg hne]
              exact hfm k hkl
          unfold StepOk at h4
          unfold StepOkY
          split
          · rename_i hw
            rw [if_pos hw] at h4
            exact Oper.wp_mono (fun a' W' ⟨v, e, hL, hv⟩ => ⟨v, e, hR v W' hL hv⟩) h4
          · rename_i hw
            rw [if_neg hw] at h4
            exact hR _ _ (Later.refl W) h4
    exact key _ _ step
  · intro f xs W hI hall _ hk hget
    obtain ⟨hc, m, hml, hfm, hAm⟩ := hI
    have hmm : m = so.length := by
      by_cases e : m = so.length
      · exact e
      have hlt : m < so.length := by omega
      have h1 := hfm m hlt
      rw [hall] at h1
      · simp at h1
      · have := List.all_eq_true.1 hso (so.getD m 0) (by
          rw [List.getD_eq_getElem?_getD, List.getElem?_eq_getElem hlt]
          exact List.getElem_mem hlt)
        exact of_decide_eq_true this
    subst hmm
    exact fin xs W hAm (fun j hj hjs => hc j (hall j hj) hjs) hk hget
end
end Go.Proofs.YtcajhdmppfiaeaaGreat
namespace Go.Proofs.YtcajhdmppfiaeaaGreat
open Go.RowKit Ms
end Go.Proofs.YtcajhdmppfiaeaaGreat
namespace Go.Proofs.YtcajhdmppfiaeaaGreat
open Go.RowKit Ms
end Go.Proofs.YtcajhdmppfiaeaaGreat
namespace Go.Proofs.YtcajhdmppfiaeaaGreat
open Go.RowKit Ms
section
variable {P : Program} {Q : Exit → Act → World → Prop} {o : Oper} {a : Act} {W : World} {R : Value → World → Prop}
end
end Go.Proofs.YtcajhdmppfiaeaaGreat
namespace Go.Proofs.YtcajhdmppfiaeaaGreat
open Go.RowKit Ms
end Go.Proofs.YtcajhdmppfiaeaaGreat
namespace Go.Proofs.YtcajhdmppfiaeaaGreat
open Go.RowKit
section
variable {P : Program} {Q : Exit → Act → World → Prop}
structure EnvV (ops : Array Oper) (a0 : Act) (c : Nat → Value) (so : List Nat) (rs : List Value) (i : Nat) (a : Act) : Prop where
  keep : ∀ y, keepsB ops i y = true → a.eval y = a0.eval y
  val : ∀ j t, waits ops i j = true → dstOf ops j = some t → so.contains j = false → a.eval (.tmp t) = c j
  res : ∀ j t, j < so.length → waits ops i (so.getD j 0) = true → dstOf ops (so.getD j 0) = some t → a.eval (.tmp t) = rs.getD j undef
def CvStep (P : Program) (ops : Array Oper) (Q : Exit → Act → World → Prop) (a0 : Act) (c : Nat → Value) (so : List Nat) (A : List Value → World → Prop) (i : Nat) (o : Oper) : Prop :=
  match so.idxOf? i with
  | some k => (k = 0 ∨ waits ops i (so.getD (k - 1) 0) = true) ∧ ∀ a W rs, rs.length = k → EnvV ops a0 c so rs i a → A rs W → o.guard = none ∧ o.wp P a W (fun a' W' => ∃ v, a' = a.put o.dst v ∧ A (rs ++ [v]) W') Q
  | none => ∀ a W rs, EnvV ops a0 c so rs i a → A rs W → StepOk P ops Q o a W (fun v _ => v = c i)
theorem cvStep_val {ops : Array Oper} {a0 : Act} {c : Nat → Value} {so : List Nat} {A : List Value → World → Prop} {i : Nat} {o : Oper} (h : so.idxOf? i = none) (hs : ∀ a W rs, EnvV ops a0 c so rs i a → A rs W → StepOk P ops Q o a W (fun v _ => v = c i)) : CvStep P ops Q a0 c so A i o := by
  unfold CvStep
  rw [h]
  exact hs
theorem cvStep_put {ops : Array Oper} {a0 : Act} {c : Nat → Value} {so : List Nat} {A : List Value → World → Prop} {i k : Nat} {o : Oper} (h : so.idxOf? i = some k) (hw : k = 0 ∨ waits ops i (so.getD (k - 1) 0) = true) (hs : ∀ a W rs, rs.length = k → EnvV ops a0 c so rs i a → A rs W → o.guard = none ∧ o.wp P a W (fun a' W' => ∃ v, a' = a.put o.dst v ∧ A (rs ++ [v]) W') Q) : CvStep P ops Q a0 c so A i o := by
  unfold CvStep
  rw [h]
  exact ⟨hw, hs⟩
theorem take_upd {so : List Nat} {xs : Nat → Value} {i k : Nat} {v : Value} (hkl : k < so.length) (hki : so.getD k 0 = i) (hnd : so.Nodup) : (so.take (k + 1)).map (upd xs i v) = (so.take k).map xs ++ [v] := by
  rw [List.take_succ_eq_append_getElem hkl, List.map_append, List.map_cons, List.map_nil]
  have e : so[k] = i := by rw [← hki, List.getD_eq_getElem?_getD, List.getElem?_eq_getElem hkl]; rfl
  rw [e, upd_self]
  congr 1
  apply List.map_congr_left
  intro x hx
  refine upd_ne xs v (fun e2 => ?_)
  obtain ⟨j, hj, hjx⟩ := List.getElem_of_mem hx
  rw [List.getElem_take] at hjx
  have hj' : j < k ∧ j < so.length := by rw [List.length_take] at hj; omega
  have : so[j] = so[k] := by rw [hjx, e2, e]
  have := (List.getElem_inj hnd).1 this
  omega
theorem wpIn_region_cv {F : Fence} (hF : Wide F) {n : Nat} {id : Nat} {o : Oper} {os : List Oper} {a0 : Act} {w : World} (cs : List Value) (so : List Nat) (A : List Value → World → Prop) (hA : ∀ rs W W', Later W W' → A rs W → A rs W') (hA0 : A [] w)
    (hm : P.follows .mixedOrders = true) (hp : plainAll (o :: os).toArray = true) (hd : dstsB (o :: os).toArray = true) (hb : backB (o :: os).toArray = true) (ha : ancB (o :: os).toArray = true) (hin : dstIn (o :: os).toArray a0.tmps.size = true) (hg : (lastL o os).guard = none)
    (hnd : so.Nodup) (hso : (so.all fun i => decide (i < (initL o os).length)) = true)
    (step : AllFrom (CvStep P (o :: os).toArray Q a0 (fun i => cs.getD i undef) so A) 0 (initL o os))
    (fin : ∀ xs W, A (so.map xs) W → (∀ j, j < (initL o os).length → so.contains j = false → xs j = cs.getD j undef) → (∀ y, keepsB (o :: os).toArray (initL o os).length y = true → (putL (initL o os) 0 xs a0).eval y = a0.eval y) → (∀ j t, j < (initL o os).length → dstOf (o :: os).toArray j = some t → (putL (initL o os) 0 xs a0).eval (.tmp t) = xs j) →
      LastOk P (lastL o os) (putL (initL o os) 0 xs a0) W Q) : (Code.region id (o :: os).toArray true).wpIn F n P Q a0 w := by
  refine wpIn_region_lastY hF (fun f xs W => (∀ i, f i = true → so.contains i = false → xs i = cs.getD i undef) ∧ ∃ m, m ≤ so.length ∧ (∀ k, k < so.length → f (so.getD k 0) = decide (k < m)) ∧ A ((so.take m).map xs) W) ⟨fun i h => by simp at h, 0, Nat.zero_le _, fun k _ => by simp, hA _ _ _ ((Later.refl w).drew) hA0⟩ hm hp hd hb ha hin hg ?_ ?_
  · have key : ∀ (l : List Oper) (i : Nat), AllFrom (CvStep P (o :: os).toArray Q a0 (fun i => cs.getD i undef) so A) i l → AllFrom (fun i o' => ∀ a W f xs, ((∀ i, f i = true → so.contains i = false → xs i = cs.getD i undef) ∧ ∃ m, m ≤ so.length ∧ (∀ k, k < so.length → f (so.getD k 0) = decide (k < m)) ∧ A ((so.take m).map xs) W) → EnvY (o :: os).toArray a0 f i a xs →
        StepOkY P (o :: os).toArray Q o' a W (fun v W' => (∀ j, updB f i j = true → so.contains j = false → upd xs i v j = cs.getD j undef) ∧ ∃ m, m ≤ so.length ∧ (∀ k, k < so.length → updB f i (so.getD k 0) = decide (k < m)) ∧ A ((so.take m).map (upd xs i v)) W')) i l := by
      intro l
      induction l with
      | nil => intro i h; exact h
      | cons o' l ih =>
        intro i h
        obtain ⟨h1, h2⟩ := h
        refine ⟨fun a W f xs hI he => ?_, ih _ h2⟩
        obtain ⟨hc, m, hml, hfm, hAm⟩ := hI
        have henv : EnvV (o :: os).toArray a0 (fun i => cs.getD i undef) so ((so.take m).map xs) i a := ⟨he.keep, fun j t hw ht hj => (he.val j t hw ht).trans (hc j (he.done j hw) hj), fun j t hj hw ht => (he.val _ t hw ht).trans (by
          have h5 := he.done _ hw
          rw [hfm j hj] at h5
          have h6 := of_decide_eq_true h5
          rw [List.getD_eq_getElem?_getD, List.getD_eq_getElem?_getD, List.getElem?_map, List.getElem?_take_of_lt h6, List.getElem?_eq_getElem hj]
          rfl)⟩
        unfold CvStep at h1
        cases hk : so.idxOf? i with
        | some k =>
          rw [hk] at h1
          obtain ⟨hw, h3⟩ := h1
          obtain ⟨hkl, hki⟩ := idxOf_getD hk
          have e1 : ¬ k < m := by
            have := hfm k hkl
            rw [hki, he.todo] at this
            intro h
            rw [decide_eq_true h] at this
            cases this
          have e2 : k ≤ m := by
            rcases hw with h | h
            · omega
            · by_cases h0 : k = 0
              · omega
              have h4 := he.done _ h
              rw [hfm (k - 1) (by omega)] at h4
              have := of_decide_eq_true h4
              omega
          obtain rfl : k = m := by omega
          obtain ⟨hg', h4⟩ := h3 a W _ (by rw [List.length_map, List.length_take]; omega) henv hAm
          have hsc : so.contains i = true := by
            rw [List.contains_iff_mem, ← hki, List.getD_eq_getElem?_getD, List.getElem?_eq_getElem hkl]
            exact List.getElem_mem hkl
          refine stepOkY_want hg' (Oper.wp_mono (fun a' W' ⟨v, e, hv⟩ => ⟨v, e, fun j hj hjs => ?_, k + 1, hkl, fun k' hk' => ?_, by rw [take_upd hkl hki hnd]; exact hv⟩) h4)
          · have hji : j ≠ i := fun e => by rw [e, hsc] at hjs; cases hjs
            rw [upd_ne xs v hji]
            exact hc j (by simpa [updB, hji] using hj) hjs
          · by_cases e : k' = k
            · subst e
              rw [hki]
              simp [updB]
            · have hne : so.getD k' 0 ≠ i := fun e3 => e (by
                rw [← hki, List.getD_eq_getElem?_getD, List.getD_eq_getElem?_getD, List.getElem?_eq_getElem hkl, List.getElem?_eq_getElem hk'] at e3
                exact (List.getElem_inj hnd).1 e3)
              have := hfm k' hk'
              simp only [updB, if_neg hne, this]
              exact decide_eq_decide.2 (by omega)
        | none =>
          rw [hk] at h1
          have h4 := h1 a W _ henv hAm
          have hR : ∀ v W', Later W W' → v = cs.getD i undef → (∀ j, updB f i j = true → so.contains j = false → upd xs i v j = cs.getD j undef) ∧ ∃ m, m ≤ so.length ∧ (∀ k, k < so.length → updB f i (so.getD k 0) = decide (k < m)) ∧ A ((so.take m).map (upd xs i v)) W' := fun v W' hL hv => by
            refine ⟨fun j hj hjs => ?_, m, hml, fun k hkl => ?_, ?_⟩
            rotate_left 2
            · have e : (so.take m).map (upd xs i v) = (so.take m).map xs := List.map_congr_left fun x hx => upd_ne xs v (fun e2 => by
                obtain ⟨j, hj, hjx⟩ := List.getElem_of_mem hx
                rw [List.getElem_take] at hjx
                have hj' : j < so.length := by rw [List.length_take] at hj; omega
                refine idxOf_none hk j hj' ?_
                rw [List.getD_eq_getElem?_getD, List.getElem?_eq_getElem hj', ← e2, ← hjx]
                rfl)
              rw [e]
              exact hA _ _ _ hL hAm
            · by_cases e : j = i
              · subst e; rw [upd_self]; exact hv
              · rw [upd_ne xs v e]
                exact hc j (by simpa [updB, e] using hj) hjs
            · have hne := idxOf_none hk k hkl
              simp only [updB, if_neg hne]
              exact hfm k hkl
          unfold StepOk at h4
          unfold StepOkY
          split
          · rename_i hw
            rw [if_pos hw] at h4
            exact Oper.wp_mono (fun a' W' ⟨v, e, hL, hv⟩ => ⟨v, e, hR v W' hL hv⟩) h4
          · rename_i hw
            rw [if_neg hw] at h4
            exact hR _ _ (Later.refl W) h4
    exact key _ _ step
  · intro f xs W hI hall _ hk hget
    obtain ⟨hc, m, hml, hfm, hAm⟩ := hI
    have hmm : m = so.length := by
      by_cases e : m = so.length
      · exact e
      have hlt : m < so.length := by omega
      have h1 := hfm m hlt
      rw [hall] at h1
      · simp at h1
      · have := List.all_eq_true.1 hso (so.getD m 0) (by
          rw [List.getD_eq_getElem?_getD, List.getElem?_eq_getElem hlt]
          exact List.getElem_mem hlt)
        exact of_decide_eq_true this
    subst hmm
    rw [List.take_of_length_le (Nat.le_refl _)] at hAm
    exact fin xs W hAm (fun j hj hjs => hc j (hall j hj) hjs) hk hget
end
end Go.Proofs.YtcajhdmppfiaeaaGreat
namespace Go.Proofs.YtcajhdmppfiaeaaGreat
open Go.RowKit Ms
end Go.Proofs.YtcajhdmppfiaeaaGreat
namespace Go.Proofs.YtcajhdmppfiaeaaGreat
open Go.RowKit Ms
section
variable {w W W' : World} {g d : Nat} {s : Said} {v0 : Value} {rs : List Value}
end
end Go.Proofs.YtcajhdmppfiaeaaGreat
namespace Go.Proofs.YtcajhdmppfiaeaaGreat
open Go.RowKit Ms
end Go.Proofs.YtcajhdmppfiaeaaGreat
namespace Go.Proofs.YtcajhdmppfiaeaaGreat
open Go.ChangeShapes Go.WideShapes Go.ChangeAt Go.RowKit Ms
section
variable {P : Program} {w : World} {r : Reach} {b : Nat} {t : TypeId} {v : Value}
theorem cellW_int {k : IntKind} (ht : P.underlying t = some (.int k)) (h : Cell.okWide P w r b t v) : ∃ n, v = .int k n ∧ k.has n := by
  unfold Cell.okWide Cell.ok at h
  rw [ht] at h
  cases v <;> simp_all
theorem cellW_str (ht : P.underlying t = some .string) (h : Cell.okWide P w r b t v) : ∃ s, v = .string s ∧ (s.size : Int) ≤ 9223372036854775807 := by
  unfold Cell.okWide Cell.ok at h
  rw [ht] at h
  cases v <;> simp_all
end
def saidT : List TypeId := [22] ++ List.replicate 32 5 ++ List.replicate 5 2 ++ List.replicate 64 5 ++ List.replicate 2 2 ++ List.replicate 192 5 ++ List.replicate 5 2 ++ [9]
theorem saidT_eq : Tryz.prog.cellTypes Tryz.prog.depth 29 = some saidT := by kernel_rfl
theorem said_where : ∀ i, i < 302 → i = 0 ∨ (∃ j, j < 9 ∧ offH j ≤ i ∧ i < offH j + 32) ∨ (∃ j, j < 12 ∧ i = offN j) ∨ i = 301 := by decide +kernel
theorem saidT_h : ∀ j, j < 9 → ∀ i, i < 32 → saidT[offH j + i]? = some 5 := by decide +kernel
theorem saidT_n : ∀ j, j < 12 → saidT[offN j]? = some 2 := by decide +kernel
def sIntV : Value → Int
  | .int _ z => z
  | _ => 0
def sStrV : Value → List UInt8
  | .string s => s.data.toList
  | _ => []
def sByV : Value → UInt8
  | .int _ z => UInt8.ofNat z.toNat
  | _ => 0
def saidOf (cs : Array Value) : Said :=
  let h := fun j => (List.range 32).map fun i => sByV (cs.getD (offH j + i) undef)
  let n := fun j => sIntV (cs.getD (offN j) undef)
  { kind := sIntV (cs.getD 0 undef), fund := h 0, tix := n 0, cap := n 1, dust := n 2, fee := n 3, delay := n 4, key0 := h 1, key1 := h 2, reserve := n 5, amount := n 6, point := h 3, next := h 4, key := h 5, hash := h 6, tag := h 7, secret := h 8, id := n 7, number := n 8, index := n 9, expiry := n 10, code := n 11, route := sStrV (cs.getD 301 undef) }
theorem saidOf_h (cs : Array Value) (j : Nat) (hj : j < 9) : (saidOf cs).h j = (List.range 32).map fun i => sByV (cs.getD (offH j + i) undef) := by
  rcases j with _ | _ | _ | _ | _ | _ | _ | _ | _ | j
  all_goals first | rfl | omega
theorem saidOf_n (cs : Array Value) (j : Nat) (hj : j < 12) : (saidOf cs).n j = sIntV (cs.getD (offN j) undef) := by
  rcases j with _ | _ | _ | _ | _ | _ | _ | _ | _ | _ | _ | _ | j
  all_goals first | rfl | omega
theorem saidOf_wf (cs : Array Value) : (saidOf cs).wf := fun j hj => by
  rw [saidOf_h cs j hj, List.length_map, List.length_range]
set_option maxRecDepth 100000 in
theorem open_said {w : World} {r : Reach} {b : Nat} {v : Value} (hv : Value.okWide Tryz.prog w r b 29 v) : ∃ s : Said, s.wf ∧ s.route.length ≤ 9223372036854775807 ∧ v = .agg (saidC s) := by
  unfold Value.okWide at hv
  obtain ⟨d, hd, hv⟩ : ∃ d, Tryz.prog.underlying 29 = some (.struct d) ∧ ∃ cs, v = .agg cs ∧ cs.size = Tryz.prog.cellsOf 29 ∧ Row.okWide Tryz.prog w r b 29 cs := by
    rw [Tryz.underlying29] at hv ⊢
    exact ⟨_, rfl, hv⟩
  obtain ⟨cs, rfl, hsz, ts, hts, _, hc⟩ := hv
  rw [saidT_eq] at hts
  injection hts with hts
  subst hts
  rw [show Tryz.prog.cellsOf 29 = 302 by kernel_rfl] at hsz
  have hlen : saidT.length = 302 := by decide +kernel
  have hcell : ∀ i u, i < 302 → saidT[i]? = some u → ∃ v, cs[i]? = some v ∧ cs.getD i undef = v ∧ Cell.okWide Tryz.prog w r b u v := fun i u hi hu => by
    obtain ⟨u', h1, h2⟩ := hc i cs[i] (Array.getElem?_eq_getElem (by omega))
    rw [hlen, Nat.mod_eq_of_lt hi, hu] at h1
    injection h1 with h1
    subst h1
    exact ⟨_, Array.getElem?_eq_getElem (by omega), by simp [Array.getD, hsz, hi], h2⟩
  have hw := saidOf_wf cs
  obtain ⟨vs, h1, h2, h3⟩ := hcell 301 _ (by decide) (show saidT[301]? = some 9 by decide +kernel)
  obtain ⟨st, rfl, hst⟩ := cellW_str Tryz.underlying9 h3
  have hroute : (saidOf cs).route = st.data.toList := by
    show sStrV (cs.getD 301 undef) = _
    rw [h2]
    rfl
  refine ⟨saidOf cs, hw, by rw [hroute, Array.length_toList]; have e : st.data.size = st.size := rfl; omega, ?_⟩
  congr 1
  apply Array.ext_getElem?
  intro i
  by_cases hi : i < 302
  · rcases said_where i hi with rfl | ⟨j, hj, hj1, hj2⟩ | ⟨j, hj, rfl⟩ | rfl
    · rw [saidC_kind hw]
      obtain ⟨v, g1, g2, g3⟩ := hcell 0 _ (by decide) (show saidT[0]? = some 22 by decide +kernel)
      obtain ⟨n, rfl, _⟩ := cellW_int Tryz.underlying22 g3
      rw [g1]
      show _ = some (Value.int .i64 (sIntV (cs.getD 0 undef)))
      rw [g2]
      rfl
    · obtain ⟨k, rfl⟩ : ∃ k, i = offH j + k := ⟨i - offH j, by omega⟩
      rw [saidC_h hw j hj k (by omega), saidOf_h cs j hj, hC_full _ (by simp)]
      obtain ⟨v, g1, g2, g3⟩ := hcell (offH j + k) _ hi (saidT_h j hj k (by omega))
      obtain ⟨n, rfl, hn⟩ := cellW_int Tryz.underlying5 g3
      rw [g1, List.map_map, List.getElem?_toArray, List.getElem?_map, List.getElem?_range (by omega)]
      show _ = some (byteV (sByV (cs.getD (offH j + k) undef)))
      rw [g2]
      have hb : 0 ≤ n ∧ n ≤ 255 := by
        simp [IntKind.has, IntKind.min, IntKind.max, IntKind.signed, IntKind.bits] at hn
        omega
      unfold byteV sByV
      rw [UInt8.toNat_ofNat']
      congr 2
      omega
    · rw [saidC_n hw j hj, saidOf_n cs j hj]
      obtain ⟨v, g1, g2, g3⟩ := hcell (offN j) _ hi (saidT_n j hj)
      obtain ⟨n, rfl, _⟩ := cellW_int Tryz.underlying2 g3
      rw [g1, g2]
      rfl
    · rw [saidC_route hw, h1, hroute]
  · rw [Array.getElem?_eq_none (by omega), Array.getElem?_eq_none (by rw [saidC_size hw]; omega)]
end Go.Proofs.YtcajhdmppfiaeaaGreat
namespace Go.Proofs.YtcajhdmppfiaeaaGreat
open Go.RowKit Ms
theorem few_any (s : Said) (hs : s.wf) (hm : s.route.length ≤ 9223372036854775807) (w : World) : Calls Tryz.prog 8 #[.agg (saidC s)] w fun e w' => e = .returned (.bool (decide (s.route.length ≤ 600))) ∧ Later w w' := by
  have k1 := Row.new w 29 (saidC s)
  have hb := below_new w (.cells (saidC s) 29)
  have hbx := boxSaid hs w
  obtain ⟨b, h3⟩ : ∃ b, decide (s.route.length ≤ 600) = b := ⟨_, rfl⟩
  have h3' : decide ((s.route.length : Int) ≤ 600) = b := by rw [← h3]; exact decide_eq_decide.2 (by omega)
  rw [h3]
  clear h3
  go_enter Tryz.func8, Tryz.ntmps8
  go_upto_region 1 with fail
  obtain ⟨g, hg⟩ : ∃ q, q = w.heap.size := ⟨_, rfl⟩
  rw [← hg] at k1 ⊢
  clear hbx hg
  generalize w.alloc (.cells (saidC s) 29) = w1 at *
  have c1 : w1.cell? ⟨g, 301, none⟩ = some (.string ⟨s.route.toArray⟩) := (k1.cell _).trans (saidC_route hs)
  have hsz : (⟨s.route.toArray⟩ : ByteArray).size = s.route.length := by simp [ByteArray.size]
  go_wp2_with fail
  go_ret
  exact ⟨rfl, hb⟩
end Go.Proofs.YtcajhdmppfiaeaaGreat
namespace Go.Proofs.YtcajhdmppfiaeaaGreat
open Go.RowKit Ms
end Go.Proofs.YtcajhdmppfiaeaaGreat
namespace Go.Proofs.YtcajhdmppfiaeaaGreat
open Go.RowKit Ms
section
variable {A0 : Option Addr} {l0 : List UInt8} {w W W1 W2 W3 : World} {g : Nat} {r : RdS}
end
end Go.Proofs.YtcajhdmppfiaeaaGreat
namespace Go.Proofs.YtcajhdmppfiaeaaGreat
open Go.RowKit Ms
structure HN (w : World) (q q4 q5 : Nat) (D : Option Addr) (n c : Nat) (bad : Bool) (x : List UInt8) (m : Nat) (W : World) : Prop where
  low : Below w.heap.size w W
  at_ : w.heap.size ≤ q ∧ q + 2 < q4 ∧ q4 < q5
  r4 : Row W q4 102 (rfV D n c bad)
  r5 : Row W q5 24 (hC x)
  r2 : Row W (q + 1) 104 (if m = 0 then rfV none 0 0 false else rfV D n c bad)
  r3 : Row W (q + 2) 24 (hC [])
end Go.Proofs.YtcajhdmppfiaeaaGreat
namespace Go.Proofs.YtcajhdmppfiaeaaGreat
open Go.RowKit Ms
theorem take1_kind (r : RdS) (f : Fld) : (take1 r f).s.kind = r.s.kind := by
  cases f with
  | num j m =>
    simp only [take1]
    rcases j with _ | _ | _ | _ | _ | _ | _ | _ | _ | _ | _ | _ | j <;> rfl
  | hash j =>
    simp only [take1]
    rcases j with _ | _ | _ | _ | _ | _ | _ | _ | _ | j <;> rfl
  | route => rfl
section
variable {A0 : Option Addr} {l0 : List UInt8} {w W W' : World} {g c m : Nat} {D : Option Addr} {r : RdS}
end
end Go.Proofs.YtcajhdmppfiaeaaGreat
namespace Go.Proofs.YtcajhdmppfiaeaaGreat
open Go.RowKit Ms
section
variable {A0 : Option Addr} {l0 : List UInt8} {v : Value} {r : RdS}
end
end Go.Proofs.YtcajhdmppfiaeaaGreat
namespace Go.Proofs.YtcajhdmppfiaeaaGreat
open Go.RowKit Ms
end Go.Proofs.YtcajhdmppfiaeaaGreat
namespace Go.Proofs.YtcajhdmppfiaeaaGreat
open Go.RowKit Ms
namespace Ms
structure Tell where
  ch : List UInt8
  s : Said
deriving DecidableEq
def Tell.wf (t : Tell) : Prop := t.ch.length = 32 ∧ t.s.wf
def noTold : Tell := ⟨z32, blank 0⟩
theorem noTold_wf : noTold.wf := ⟨z32_len, blank_wf 0⟩
def toldC (t : Tell) : Array Value := hC t.ch ++ saidC t.s
theorem toldC_size {t : Tell} (h : t.wf) : (toldC t).size = 334 := by
  unfold toldC
  rw [Array.size_append, hC_size _ (Nat.le_of_eq h.1), saidC_size h.2]
theorem toldC_h {t : Tell} (h : t.wf) (i : Nat) (hi : i < 32) : (toldC t)[0 + i]? = (hC t.ch)[i]? := by
  unfold toldC
  rw [Nat.zero_add, Array.getElem?_append_left (by rw [hC_size _ (Nat.le_of_eq h.1)]; exact hi)]
theorem toldC_s {t : Tell} (h : t.wf) (i : Nat) : (toldC t)[32 + i]? = (saidC t.s)[i]? := by
  unfold toldC
  rw [Array.getElem?_append_right (by rw [hC_size _ (Nat.le_of_eq h.1)]; omega), hC_size _ (Nat.le_of_eq h.1), Nat.add_sub_cancel_left]
theorem toldC_one (t : Tell) : (toldC t).all (·.oneCell') = true := by
  rw [Array.all_eq_true_iff_forall_mem]
  intro v hv
  unfold toldC at hv
  rcases Array.mem_append.1 hv with h | h
  · exact Array.all_eq_true_iff_forall_mem.1 (hC_one _) v h
  · exact Array.all_eq_true_iff_forall_mem.1 (saidC_one _) v h
end Ms
theorem infoTold : (Tryz.prog.info? 48).map (·.size) = some 334 := by kernel_rfl
section
variable {w : World} {g : Nat} {t : Tell}
theorem allocTold (w : World) : (Instr.alloc 48 true (.tuple #[])).run Tryz.prog w = .ok (.pointer (some ⟨w.heap.size, 0, none⟩)) (w.alloc (.cells (toldC noTold) 48)) := by kernel_rfl
theorem boxTold (h : t.wf) (w : World) : (Instr.box 48 (.agg (toldC t))).run Tryz.prog w = .ok (.pointer (some ⟨w.heap.size, 0, none⟩)) (w.alloc (.cells (toldC t) 48)) := run_box_row w _ _ (by rw [toldC_size h]; exact infoTold)
theorem loadTold (h : t.wf) (hr : Row w g 48 (toldC t)) : (Instr.loadAt 48 (.pointer (some ⟨g, 0, none⟩))).run Tryz.prog w = .ok (.agg (toldC t)) w :=
  run_load_row hr Tryz.underlying48 rfl (by rw [toldC_size h]; exact infoTold)
theorem storeTold {t' : Tell} (h : t.wf) (h' : t'.wf) (hr : Row w g 48 (toldC t)) : ∃ w', (Instr.storeAt 48 (.pointer (some ⟨g, 0, none⟩)) (.agg (toldC t'))).run Tryz.prog w = .ok () w' ∧ Row w' g 48 (toldC t') ∧ w.grownBy w' (some g) := by
  have h1 := toldC_size h
  have h2 := toldC_size h'
  refine ⟨_, run_store_row hr (toldC t') (by rw [h2]; exact infoTold) (by rw [h1, h2]; decide) (toldC_one _), ?_, grown_setCells _ _ _⟩
  have hr2 := row_setCells (toldC t').toList 0 w _ hr
  rw [setFrom_whole _ _ (by rw [Array.length_toList, h1, h2]), Array.toArray_toList] at hr2
  exact hr2
theorem newTold (w : World) {t : Tell} (h : t.wf) : ∃ w', (Instr.storeAt 48 (.pointer (some ⟨w.heap.size, 0, none⟩)) (.agg (toldC t))).run Tryz.prog (w.alloc (.cells (toldC noTold) 48)) = .ok () w' ∧ Row w' w.heap.size 48 (toldC t) ∧ Later w w' := by
  obtain ⟨w', h1, h2, h3⟩ := storeTold noTold_wf h (Row.new w 48 (toldC noTold))
  exact ⟨w', h1, h2, Below.grown ((Later.refl w).alloc _) h3 (by simp only [World.size_alloc]; omega) (fun j e => by cases e; exact Nat.le_refl _)⟩
theorem loadToldAt {T : TypeId} {cs : Array Value} {o : Nat} (h : t.wf) (hr : Row w g T cs) (hp : ∀ i, i < 334 → cs[o + i]? = (toldC t)[i]?) : (Instr.loadAt 48 (.pointer (some ⟨g, o, none⟩))).run Tryz.prog w = .ok (.agg (toldC t)) w :=
  run_load_part hr (fun i hi => hp i (by rw [toldC_size h] at hi; exact hi)) Tryz.underlying48 rfl (by rw [toldC_size h]; exact infoTold)
theorem loadToldSAt {T : TypeId} {cs : Array Value} {o : Nat} (h : t.wf) (hr : Row w g T cs) (hp : ∀ i, i < 334 → cs[o + i]? = (toldC t)[i]?) : (Instr.loadAt 29 (.pointer (some ⟨g, o + 32, none⟩))).run Tryz.prog w = .ok (.agg (saidC t.s)) w :=
  run_load_part hr (fun i hi => by
    rw [saidC_size h.2] at hi
    rw [Nat.add_assoc, hp (32 + i) (by omega), toldC_s h]) Tryz.underlying29 rfl (by rw [saidC_size h.2]; exact infoSaid)
theorem loadToldS (h : t.wf) (hr : Row w g 48 (toldC t)) : (Instr.loadAt 29 (.pointer (some ⟨g, 32, none⟩))).run Tryz.prog w = .ok (.agg (saidC t.s)) w := by
  have := loadToldSAt (o := 0) h hr (fun i _ => by rw [Nat.zero_add])
  rwa [Nat.zero_add] at this
theorem fieldTold1 {o : Nat} {W : World} : (Instr.fieldAt 48 (.pointer (some ⟨g, o, none⟩)) 1).run Tryz.prog W = .ok (.pointer (some ⟨g, o + 32, none⟩)) W := by
  go_simp
end
theorem buildTold0 (f k : Nat → Value) (w : World) : (Instr.build 48 #[(0, .agg ((List.range 32).map f).toArray), (1, .agg ((List.range 302).map k).toArray)]).run Tryz.prog w = .ok (.agg ((List.range 32).map f ++ (List.range 302).map k).toArray) w := by kernel_rfl
theorem buildTold {h : List UInt8} {s : Said} (hh : h.length = 32) (hs : s.wf) (w : World) : (Instr.build 48 #[(0, .agg (hC h)), (1, .agg (saidC s))]).run Tryz.prog w = .ok (.agg (toldC ⟨h, s⟩)) w := by
  unfold toldC
  simp only
  rw [array_range (hC h) 32 (hC_size _ (Nat.le_of_eq hh)), array_range (saidC s) 302 (saidC_size hs), List.append_toArray]
  exact buildTold0 _ _ w
theorem flds_told : (Tryz.prog.fieldsOf 48).toList = [fld 48 0, fld 48 1] := by kernel_rfl
theorem partSaid0 (cs : Array Value) (off : Nat) (w : World) : (part 29 cs off).run Tryz.prog w = .ok (.agg (cs.extract off (off + 302))) w := by
  unfold part
  go_simp
theorem partToldH {t : Tell} (h : t.wf) (w : World) : (part 24 (toldC t) 0).run Tryz.prog w = .ok (.agg (hC t.ch)) w :=
  partHash h.1 (by rw [toldC_size h]; decide) (toldC_h h) w
theorem partToldS {t : Tell} (h : t.wf) (w : World) : (part 29 (toldC t) 32).run Tryz.prog w = .ok (.agg (saidC t.s)) w := by
  rw [partSaid0, extract_of (saidC_size h.2) (by rw [toldC_size h]; decide) (fun j _ => toldC_s h j)]
def tdEq (t t' : Tell) : Bool := (t.ch == t'.ch) && (decide (t.s = t'.s) && true)
theorem tdEq_iff (t t' : Tell) : tdEq t t' = decide (t = t') := by
  unfold tdEq
  obtain ⟨a, b⟩ := t
  obtain ⟨c, d⟩ := t'
  rw [Bool.eq_iff_iff]
  simp only [Bool.and_eq_true, beq_iff_eq, and_true, decide_eq_true_eq, Tell.mk.injEq]
theorem eqTold (d : Nat) {t t' : Tell} (h : t.wf) (h' : t'.wf) (w : World) : (Op.equalIn (d + 6) 48 (.agg (toldC t)) (.agg (toldC t'))).run Tryz.prog w = .ok (decide (t = t')) w := by
  rw [run_equalIn_struct w (d + 5) _ _ _ (by kernel_rfl) (by kernel_rfl), flds_told, ← tdEq_iff]
  unfold tdEq
  refine eqFields_cons _ _ _ _ _ (T := 24) (off := 0) (by kernel_rfl) (by kernel_rfl) (by kernel_rfl) (partToldH h) (partToldH h') (eqHash (d + 3) _ _ h.1 h'.1) ?_
  refine eqFields_cons _ _ _ _ _ (T := 29) (off := 32) (by kernel_rfl) (by kernel_rfl) (by kernel_rfl) (partToldS h) (partToldS h') (eqSaid d h.2 h'.2) ?_
  exact eqFields_nil _ _ _ _
theorem neqTold {t t' : Tell} (h : t.wf) (h' : t'.wf) (w : World) : (binOp .neq 48 (.agg (toldC t)) (.agg (toldC t'))).run Tryz.prog w = .ok (.bool (!decide (t = t'))) w := by
  rw [run_neq_struct, eqTold 9994 h h']
  rfl
theorem eqgTold (b : BinOp) (x y : Operand) (xs ys : Array Value) (w : World) : (eqGuard b 48 x y (.agg xs) (.agg ys)).run Tryz.prog w = .ok () w := run_eqGuard_agg w b _ x y xs ys (by kernel_rfl)
end Go.Proofs.YtcajhdmppfiaeaaGreat
namespace Go.Proofs.YtcajhdmppfiaeaaGreat
open Go.RowKit Ms
namespace Ms
def okT (l : List UInt8) : Bool := decide (32 ≤ l.length) && okB (l.drop 32)
def toldOf (l : List UInt8) : Tell := if okT l then ⟨l.take 32, parse (l.drop 32)⟩ else noTold
def toldE (l : List UInt8) : Int := if okT l then 0 else 210
theorem toldOf_wf (l : List UInt8) : (toldOf l).wf := by
  unfold toldOf
  split
  · rename_i h
    unfold okT at h
    rw [Bool.and_eq_true, decide_eq_true_eq] at h
    exact ⟨by show (l.take 32).length = 32; rw [List.length_take]; omega, parse_wf _⟩
  · exact noTold_wf
end Ms
theorem op_arr {P : Program} {Q : Exit → Act → World → Prop} {o : Oper} {a : Act} {W : World} {R : Value → World → Prop} {t : TypeId} {x : Operand} {vx v : Value} (ho : o.op = .sliceToArrayPointer t x) (hx : a.eval x = vx) (hr : (Instr.arrayAt t vx).run P W = .ok v W) (h : R v W) : o.wp P a W (fun a' W' => ∃ v, a' = a.put o.dst v ∧ Later W W' ∧ R v W') Q := by
  refine op_value (v := v) (W' := W) ?_ (Later.refl _) h
  unfold execOp
  simp only [ho, hx, hr, Sem.run_bind, Sem.run_pure, Result.andThen_ok]
theorem run_arr32 {A : Option Addr} {c : Nat} (W : World) : (Instr.arrayAt 24 (.slice A 32 c)).run Tryz.prog W = .ok (.pointer A) W := by
  simp [Instr.arrayAt, run_underlying Tryz.underlying24]
theorem load_rd32 {A : Option Addr} {l : List UInt8} {W : World} (hl : 32 ≤ l.length) (hr : Rd W A l) : (Instr.loadAt 24 (.pointer A)).run Tryz.prog W = .ok (.agg (hC (l.take 32))) W := by
  obtain ⟨b, o, rfl, hc⟩ := hr (by intro e; subst e; simp at hl)
  have h32 : (l.take 32).length = 32 := by rw [List.length_take]; omega
  refine loadHr h32 ?_
  rw [hC_full _ h32]
  intro j v hv
  rw [List.getElem?_map] at hv
  rcases Nat.lt_or_ge j 32 with h | h
  · rw [List.getElem?_eq_getElem (by rw [h32]; exact h)] at hv
    rw [← hv, hc j (by omega)]
    simp [byteV]
  · rw [List.getElem?_eq_none (by rw [h32]; exact h)] at hv
    cases hv
structure TL (w : World) (q q4 : Nat) (A : Option Addr) (l : List UInt8) (m : Nat) (W : World) : Prop where
  low : Below w.heap.size w W
  row : Row W q 48 (toldC (if m = 0 then noTold else ⟨l.take 32, parse (l.drop 32)⟩))
  sd : Row W q4 29 (saidC (parse (l.drop 32)))
  rd : Rd W A l
  le : w.heap.size ≤ q
theorem TL.later {w W W' : World} {q q4 m : Nat} {A : Option Addr} {l : List UInt8} (h : TL w q q4 A l m W) (hL : Later W W') : TL w q q4 A l m W' :=
  ⟨h.low.trans (hL.below.mono h.low.size), h.row.later hL, h.sd.later hL, h.rd.later hL, h.le⟩
set_option maxRecDepth 100000 in
set_option maxHeartbeats 4000000 in
theorem told_any (A : Option Addr) (n c : Nat) (l : List UInt8) (w : World) (hn : l.length = n) (hc : n ≤ c) (hcm : c ≤ 9223372036854775807) (hnm : n ≤ 140737488355328) (hX : Rd w A l) :
    Calls Tryz.prog 53 #[.slice A n c] w fun e w' => e = .returned (.tuple #[.agg (toldC (toldOf l)), .int .i64 (toldE l)]) ∧ Below w.heap.size w w' := by
  have k1 := Row.new w 48 (toldC noTold)
  have hb := below_new w (.cells (toldC noTold) 48)
  refine Calls.post fun Φ HΦ => ?_
  have hne : ∀ b o, A = some ⟨b, o, none⟩ → l ≠ [] → b < w.heap.size := fun b o e hne => hX.lt e hne
  go_enter Tryz.func53, Tryz.ntmps53
  go_upto_region 1 with (first
    | (with_reducible refine wpList_alloc rfl 48 rfl (allocTold _) ?_)
    | fail)
  obtain ⟨q, hq⟩ : ∃ q, q = w.heap.size := ⟨_, rfl⟩
  rw [← hq] at k1 ⊢
  have hX1 := hX.later hb
  have HQ := Lib.hid hq
  clear hq hX
  generalize w.alloc (.cells (toldC noTold) 48) = w1 at *
  by_cases h32 : n < 32
  · have d1 : decide ((n : Int) < 32) = true := decide_eq_true (by omega)
    have d2 : decide (n < 32) = true := decide_eq_true h32
    have hno : okT l = false := by unfold okT; rw [decide_eq_false (by omega)]; rfl
    have hld := loadTold noTold_wf k1
    obtain ⟨w2, hst, k2, hg⟩ := storeTold noTold_wf noTold_wf k1
    have hb2 := hb.grown hg hb.size (fun j e => by injection e with e; have := HQ.out; omega)
    clear hg k1 hX1 hne
    go_wp2_with (first
      | (guard_target =~ wpList _ _ _ (_ :: _) _ _; refine wpList_load rfl 48 (.tmp 2) rfl (.pointer (some ⟨q, 0, none⟩)) rfl hld ?_)
      | (guard_target =~ wpList _ _ _ (_ :: _) _ _; refine wpList_store rfl 48 (.tmp 2) (.tmp 8) rfl (.pointer (some ⟨q, 0, none⟩)) (.agg (toldC noTold)) rfl rfl hst ?_)
      | fail)
    exact bodyPost_ret (results_cell_tmp rfl _ _ q 48 (toldC noTold) (0, 0) _ (.int .i64 210) rfl rfl k2 Tryz.underlying48 rfl (by rw [toldC_size noTold_wf]; exact infoTold)) rfl (HΦ.out _ _ ⟨by unfold toldOf toldE; rw [hno]; rfl, hb2⟩)
  · have d1 : decide ((n : Int) < 32) = false := decide_eq_false (by omega)
    have d2 : decide (n < 32) = false := decide_eq_false h32
    obtain ⟨D, hs1, hD, _⟩ := run_slice_from2 (P := Tryz.prog) (t := 32) (U := 5) (A := A) (n := n) (ca := c) (k := 32) Tryz.underlying32 byteInfo (by omega) hc
    have hs1' : ∀ w : World, (Instr.slice 32 (.slice A n c) (some (.int .i64 32)) none none).run Tryz.prog w = .ok (.slice D (n - 32) (c - 32)) w := hs1
    have hdl : (l.drop 32).length = n - 32 := by rw [List.length_drop, hn]
    have hp := mparse_any D (n - 32) (c - 32) (l.drop 32) w1 hdl (by omega) (hD w1 l hn hX1)
    obtain ⟨P, hP⟩ : ∃ P, Ms.parse (l.drop 32) = P := ⟨_, rfl⟩
    have hPw : P.wf := hP ▸ parse_wf _
    obtain ⟨ok, hok⟩ : ∃ b, okB (l.drop 32) = b := ⟨_, rfl⟩
    have hE : Ms.parseE (l.drop 32) = if ok = true then 0 else 210 := by rw [← hok]; rfl
    have hoT : okT l = ok := by unfold okT; rw [hok, decide_eq_true (by omega : 32 ≤ l.length)]; rfl
    have hTO : toldOf l = if ok = true then ⟨l.take 32, P⟩ else noTold := by unfold toldOf; rw [hoT, hP]
    have hTE : toldE l = if ok = true then 0 else 210 := by unfold toldE; rw [hoT]
    have ht32 : (l.take 32).length = 32 := by rw [List.length_take]; omega
    rw [hTO, hTE] at HΦ
    rw [hP, hE] at hp
    have HP := Lib.hid hp
    have HPP := Lib.hid hP
    clear hp hok hE hoT hTO hTE hP hD
    go_upto_region 4 with (first
      | (go_at_call 15; refine HP.out.mono ?_; rintro e w2 ⟨rfl, hb2⟩; obtain ⟨w3, hst, x3, hL3⟩ := newSaid w2 hPw)
      | (with_reducible refine wpList_alloc rfl 29 rfl (allocSaid _) ?_)
      | (guard_target =~ wpList _ _ _ (_ :: _) _ _; refine wpList_store rfl 29 (.tmp 4) (.tmp 13) rfl (.pointer (some ⟨w2.heap.size, 0, none⟩)) (.agg (saidC P)) rfl rfl hst ?_)
      | fail)
    obtain ⟨q4, hq4⟩ : ∃ q, q = w2.heap.size := ⟨_, rfl⟩
    rw [← hq4] at x3 ⊢
    have hL13 : Later w1 w3 := Later.step hb2 hL3
    have k3 := k1.later hL13
    have hb3 := Later.step hb hL13
    have hX3 := hX1.later hL13
    have hq4q : q < q4 := by have := k1.lt; have := hb2.size; omega
    clear hst hb2 hL3 hL13 k1 hb hX1 hs1 hs1' d1 d2 HP
    cases ok
    · have hld := loadTold noTold_wf k3
      obtain ⟨w4, hst, k4, hg⟩ := storeTold noTold_wf noTold_wf k3
      have hb4 := hb3.grown hg hb3.size (fun j e => by injection e with e; have := HQ.out; omega)
      clear hg k3 hX3 hne
      go_wp2_with (first
        | (guard_target =~ wpList _ _ _ (_ :: _) _ _; refine wpList_load rfl 48 (.tmp 2) rfl (.pointer (some ⟨q, 0, none⟩)) rfl hld ?_)
        | (guard_target =~ wpList _ _ _ (_ :: _) _ _; refine wpList_store rfl 48 (.tmp 2) (.tmp 17) rfl (.pointer (some ⟨q, 0, none⟩)) (.agg (toldC noTold)) rfl rfl hst ?_)
        | fail)
      exact bodyPost_ret (results_cell_tmp rfl _ _ q 48 (toldC noTold) (0, 0) _ (.int .i64 210) rfl rfl k4 Tryz.underlying48 rfl (by rw [toldC_size noTold_wf]; exact infoTold)) rfl (HΦ.out _ _ ⟨rfl, hb4⟩)
    · go_upto_region 6 with fail
      have hTw : (⟨l.take 32, P⟩ : Tell).wf := ⟨ht32, hPw⟩
      have hA0 : TL w q q4 A l 0 w3 := ⟨hb3, by rw [if_pos rfl]; exact k3, by rw [HPP.out]; exact x3, hX3, Nat.le_of_eq HQ.out.symm⟩
      have HPW := Lib.hid hPw
      have HNE := Lib.hid hne
      have HTW := Lib.hid hTw
      have HT32 := Lib.hid ht32
      have HN := Lib.hid hn
      clear k3 x3 hX3 hb3 hne hTw ht32 hPw hn
      refine (wpIn_wide (n := 0)).1 ?_
      refine wpIn_region_chain wide_wide [.slice A n c, .slice A 32 c, .pointer A, .agg (hC (l.take 32)), .agg (saidC P), .agg (toldC ⟨l.take 32, P⟩), undef] [6] (TL w q q4 A l) (fun m W W' hL h => h.later hL) hA0 (by kernel_rfl) (by kernel_rfl) (by kernel_rfl) (by kernel_rfl) (by kernel_rfl) (by kernel_rfl) rfl (by decide) rfl ⟨?_, ?_, ?_, ?_, ?_, ?_, ?_, trivial⟩ ?_
      · exact chStep_val rfl (fun ac W m he hA => stepOk_want rfl (op_move rfl (he.keep (.tmp 0) (by kernel_rfl))))
      · exact chStep_val rfl (fun ac W m he hA => stepOk_want rfl (op_slice (W' := W) rfl (show ac.eval (.tmp 19) = .slice A n c from he.val 0 19 (by kernel_rfl) rfl rfl) rfl rfl rfl (run_slice_upto (k := 32) Tryz.underlying32 byteInfo (by omega) W) rfl))
      · exact chStep_val rfl (fun ac W m he hA => stepOk_want rfl (op_arr rfl (show ac.eval (.tmp 20) = .slice A 32 c from he.val 1 20 (by kernel_rfl) rfl rfl) (run_arr32 W) rfl))
      · exact chStep_val rfl (fun ac W m he hA => stepOk_want rfl (op_load rfl (show ac.eval (.tmp 21) = .pointer A from he.val 2 21 (by kernel_rfl) rfl rfl) (load_rd32 (by rw [HN.out]; omega) hA.rd) rfl))
      · exact chStep_val rfl (fun ac W m he hA => stepOk_want rfl (op_load rfl (he.keep (.tmp 4) (by kernel_rfl)) (by have := loadSaid (by rw [HPP.out]; exact HPW.out) hA.sd; rwa [HPP.out] at this) rfl))
      · exact chStep_val rfl (fun ac W m he hA => by
          refine stepOk_want rfl ?_
          have e3 : ac.eval (.tmp 22) = .agg (hC (l.take 32)) := he.val 3 22 (by kernel_rfl) rfl rfl
          have e4 : ac.eval (.tmp 23) = .agg (saidC P) := he.val 4 23 (by kernel_rfl) rfl rfl
          exact op_buildR rfl (by simp only [List.map_toArray, List.map_cons, List.map_nil, e3, e4]) (buildTold HT32.out HPW.out W) rfl)
      · refine chStep_put (k := 0) rfl (.inl rfl) (fun ac W he hA => ⟨rfl, ?_⟩)
        have hrow := hA.row
        rw [if_pos rfl] at hrow
        obtain ⟨W', hr, h7, h8⟩ := storeTold noTold_wf HTW.out hrow
        exact op_storeK rfl (he.keep (.tmp 2) (by kernel_rfl)) (show ac.eval (.tmp 24) = .agg (toldC ⟨l.take 32, P⟩) from he.val 5 24 (by kernel_rfl) rfl rfl) hr ⟨undef, rfl, hA.low.grown h8 hA.low.size (fun j e => by injection e with e; have := hA.le; omega), by rw [if_neg (by omega), HPP.out]; exact h7, hA.sd.grown h8 (fun e => by injection e with e; omega), hA.rd.grown h8 (fun b o e hne e2 => by have := HNE.out b o e hne; injection e2 with e2; have := HQ.out; omega), hA.le⟩
      intro xs W hA hx hk hgt
      have hA : TL w q q4 A l 1 W := hA
      refine last_assign rfl rfl ?_
      have hlow := hA.low
      have hrow := hA.row
      rw [if_neg (by omega), HPP.out] at hrow
      clear hx hk hgt hA hA0
      simp only [initL, lastL, putL, Nat.reduceAdd, Act.put, List.setIfInBounds_toArray, List.set_cons_succ, List.set_cons_zero]
      go_wp2_with fail
      exact bodyPost_ret (results_cell_tmp rfl _ _ q 48 (toldC ⟨l.take 32, P⟩) (0, 0) _ (.int .i64 0) rfl rfl hrow Tryz.underlying48 rfl (by rw [toldC_size HTW.out]; exact infoTold)) rfl (HΦ.out _ _ ⟨rfl, hlow⟩)
end Go.Proofs.YtcajhdmppfiaeaaGreat
namespace Go.Proofs.YtcajhdmppfiaeaaGreat
open Go.RowKit Ms
namespace Ms
def rawOf (t : Tell) : List UInt8 := Wr.frame (t.ch ++ body t.s)
def rawR (t : Tell) : List UInt8 := if right t.s then rawOf t else []
theorem body_len {s : Said} (hs : s.wf) (hr : Ms.right s = true) : 0 < (body s).length ∧ (body s).length ≤ 5000 := by
  have h1 := laid_le hs (right_route hr) (flds s.kind) (flds_hash s.kind)
  have h2 := flds_len s.kind
  have h3 := Wr.bytes_le s.kind.toNat
  have h4 : 0 < (Wr.bytes s.kind.toNat).length := by rw [Wr.bytes_len]; split <;> (try split) <;> (try split) <;> omega
  unfold body
  rw [List.length_append]
  omega
end Ms
theorem rd_told {w : World} {g : Nat} {t : Tell} (h : t.wf) (hr : Row w g 48 (toldC t)) : Rd w (some ⟨g, 0, none⟩) t.ch := fun _ =>
  ⟨g, 0, rfl, fun i hi => by
    have hi' : i < 32 := by rw [← h.1]; exact hi
    rw [hr.cell, toldC_h h i hi', hC_get t.ch i hi (Nat.le_of_eq h.1)]⟩
set_option maxRecDepth 100000 in
set_option maxHeartbeats 2000000 in
theorem mraw_any (t : Tell) (ht : t.wf) (hm : t.s.route.length ≤ 9223372036854775807) (w : World) :
    Calls Tryz.prog 17 #[.agg (toldC t)] w fun e w' => ∃ v, e = .returned (.tuple #[v, .int .i64 (bodyE t.s)]) ∧ Own 5 w' w.heap.size v (rawR t) ∧ Below w.heap.size w w' := by
  have k1 := Row.new w 48 (toldC t)
  have hb := below_new w (.cells (toldC t) 48)
  have hbx := boxTold ht w
  have hbody := fun W => mbody_any t.s ht.2 hm W
  obtain ⟨r, hr⟩ : ∃ r, Ms.right t.s = r := ⟨_, rfl⟩
  have hE : bodyE t.s = if r = true then 0 else 2 := by unfold bodyE; rw [hr]
  have hR : rawR t = if r = true then rawOf t else [] := by unfold rawR; rw [hr]
  have hB : bodyR t.s = if r = true then body t.s else [] := by unfold bodyR; rw [hr]
  have hbl := body_len ht.2 (s := t.s)
  rw [hr] at hbl
  rw [hE, hR]
  rw [hE, hB] at hbody
  have HBODY := Lib.hid hbody
  have HHT := Lib.hid ht
  clear hbody hE hR hB hr ht hm
  refine Calls.post fun Φ HΦ => ?_
  go_enter Tryz.func17, Tryz.ntmps17
  go_upto_region 1 with fail
  obtain ⟨g, hg⟩ : ∃ q, q = w.heap.size := ⟨_, rfl⟩
  rw [← hg] at k1 ⊢
  have HG := Lib.hid hg
  clear hbx hg
  generalize w.alloc (.cells (toldC t) 48) = w1 at *
  have hld := loadToldS HHT.out k1
  have hf := fun W => fieldTold1 (g := g) (o := 0) (W := W)
  have HF := Lib.hid hf
  clear hf
  go_upto_region 2 with (first
    | (guard_target =~ wpList _ _ _ (_ :: _) _ _; refine wpList_load rfl 29 (.tmp 7) rfl (.pointer (some ⟨g, 32, none⟩)) rfl hld ?_)
    | (go_at_call 10; refine (HBODY.out _).mono ?_; rintro e w2 ⟨v2, rfl, hown, hL2⟩; obtain ⟨A2, c2, rfl, hc2, hcm2, hrd2⟩ := hown.slice)
    | fail)
  have k2 := k1.belowAll hL2
  have hb2 := Later.step hb hL2
  clear hld hown k1 hb HBODY
  cases r
  · go_wp2_with fail
    exact HΦ.out _ _ ⟨_, rfl, Own.nil _ _ _, hb2⟩
  · go_upto_region 4 with fail
    obtain ⟨h0, h5⟩ := hbl rfl
    obtain ⟨b, hbb⟩ : ∃ b, body t.s = b := ⟨_, rfl⟩
    have hraw : rawOf t = Wr.frame (t.ch ++ b) := by unfold rawOf; rw [hbb]
    have hc2 : (body t.s).length ≤ c2 := hc2
    have hrd2 : Rd w2 A2 (body t.s) := hrd2
    rw [hbb] at hc2 hrd2 ⊢
    replace HΦ : Hid (∀ e w', (∃ v, e = .returned (.tuple #[v, .int .i64 0]) ∧ Own 5 w' w.heap.size v (rawOf t) ∧ Below w.heap.size w w') → Φ e w') := HΦ
    rw [hraw] at HΦ
    rw [hbb] at h0 h5
    have HRAW := Lib.hid hraw
    have hrch := rd_told HHT.out k2
    have h32 := HHT.out.1
    clear hbl hbb hraw HRAW
    obtain ⟨N, hN⟩ : ∃ N, b.length = N := ⟨_, rfl⟩
    rw [hN] at hc2 h0 h5 ⊢
    have hflat : ([t.ch, b] : List (List UInt8)).flatten = t.ch ++ b := by simp
    have hlen : (t.ch ++ b).length = N + 32 := by rw [List.length_append, hN, h32]; omega
    have hcc := concat_any (some ⟨w2.heap.size, 0, none⟩) 2 2 [t.ch, b] (w2.alloc (.cells #[.slice (some ⟨g, 0, none⟩) 32 32, .slice A2 N c2] 32)) rfl (by omega) (by rw [hflat, hlen]; omega) (Rds.two_at _ rfl hrch h32 hrd2 hN)
    rw [hflat] at hcc
    have HLEN := Lib.hid hlen
    have HCC := Lib.hid hcc
    have hL2' : Later w (w2.alloc (.cells #[.slice (some ⟨g, 0, none⟩) 32 32, .slice A2 N c2] 32)) := hb2.alloc _
    generalize t.ch ++ b = x at *
    clear hcc hlen hflat hrd2 hrch h32 k2 hb2
    go_wp2_with (first
      | (guard_target =~ wpList _ _ _ (_ :: _) _ _; refine wpList_slice0 rfl 24 (.tmp 15) rfl (.pointer (some ⟨g, 0, none⟩)) rfl (sliceHash _) ?_)
      | (guard_target =~ wpList _ _ _ (_ :: _) _ _; refine wpList_buildSl rfl 150 2 _ rfl #[(0, .slice (some ⟨g, 0, none⟩) 32 32), (1, .slice A2 N c2)] (by simp only [List.map_toArray, List.map_cons, List.map_nil]; rfl) (run_rows2 _ _ _ _ _ _ _) ?_)
      | (go_at_call 50; refine HCC.out.mono ?_; rintro e w3 ⟨v3, rfl, hown3, hL3⟩; obtain ⟨A3, c3, rfl, hc3, hcm3, hrd3⟩ := hown3.slice; have hfr := frame_any A3 x.length c3 x w3 rfl (by rw [HLEN.out]; omega) hrd3; rw [if_pos (by rw [HLEN.out]; omega), if_pos (by rw [HLEN.out]; omega)] at hfr; have HFR := Lib.hid hfr; clear hfr hown3 hrd3)
      | (go_at_call 49; refine HFR.out.mono ?_; rintro e w4 ⟨v4, rfl, hown4, hL4⟩)
      | fail)
    exact HΦ.out _ _ ⟨_, rfl, hown4.mono (Later.step hL2' hL3).size, Later.step (Later.step hL2' hL3) hL4⟩
end Go.Proofs.YtcajhdmppfiaeaaGreat
namespace Go.Proofs.YtcajhdmppfiaeaaGreat
open Go.RowKit Ms
end Go.Proofs.YtcajhdmppfiaeaaGreat
namespace Go.Proofs.YtcajhdmppfiaeaaGreat
open Go.RowKit Ms
def WA (w : World) (g : Nat) (t : Tell) (rs : List Value) (W : World) : Prop :=
  Below g w W ∧ Row W g 48 (toldC t) ∧ g + 1 ≤ W.heap.size ∧ match rs with
  | [] => True
  | [a] => Own 5 W (g + 1) a t.ch
  | [a, b] => Own 5 W (g + 1) a t.ch ∧ ∃ A c, b = .slice A (body t.s).length c ∧ Rd W A (body t.s)
  | [_, _, c] => Own 5 W (g + 1) c (t.ch ++ body t.s)
  | [_, _, _, d] => Own 5 W (g + 1) d (rawOf t)
  | _ => False
end Go.Proofs.YtcajhdmppfiaeaaGreat
namespace Go.Proofs.YtcajhdmppfiaeaaGreat
open Go.RowKit
section
open Ms
end
end Go.Proofs.YtcajhdmppfiaeaaGreat
namespace Go.Proofs.YtcajhdmppfiaeaaGreat
open Go.RowKit Ms
attribute [local go_sem] Oper.semAt_some
section
variable {F : Fence} {n : Nat} {P : Program} {w : World} {ops : Array Oper} {rest : List Oper} {o : Oper} {a : Act} {Q : Exit → Act → World → Prop}
theorem wpListIn_on (hw : Region.wanted o (yielded ops a.tmps) = true) (h : ∀ K : Act → World → Prop, (∀ a w, wpListIn F n P ops Q rest a w → K a w) → o.wpIn F n P a w K Q) : wpListIn F n P ops Q (o :: rest) a w :=
  wpListIn_step fun K hK => by
    rw [if_pos hw]
    exact h K hK
theorem wpListIn_loadG (hw : Region.wanted o (yielded ops a.tmps) = true) (T : TypeId) (x : Operand) (ho : o.op = .load T x) (vx : Value) (hx : a.eval x = vx) {v : Value} {w' : World} (hr : (Instr.loadAt T vx).run P w = .ok v w')
    (h : wpListIn F n P ops Q rest (a.put o.dst v) w') : wpListIn F n P ops Q (o :: rest) a w := by
  refine wpListIn_on hw fun K hK => ?_
  unfold Oper.wpIn
  refine ⟨?_, ?_⟩
  · simp [Oper.about, ho]
  · rw [Oper.semAt_plain F _ _ (by rw [ho]; intro c hc'; cases hc')]
    simp [execOp, ho, hx, hr, Result.andThen]
    exact hK _ _ h
end
theorem wpIn_name {F : Fence} {n : Nat} {P : Program} {c : Code} {Q : Exit → Act → World → Prop} {tm : Array Value} {d : List Deferred} {w : World} (h : ∀ T, T = tm → c.wpIn F n P Q { tmps := T, defers := d } w) : c.wpIn F n P Q { tmps := tm, defers := d } w := h tm rfl
structure Ms.Td where
  at_ : Int
  t : Tell
abbrev tdE (x : Td) : Array Value := #[.int .i64 x.at_, .agg (toldC x.t)]
namespace Ms
def tgo (k : Nat) (l : List UInt8) : Bool := Wr.goes k l && okT (Wr.body k l)
def tAt (k : Nat) (l : List UInt8) : Td := ⟨Wr.upto (k + 1) l, toldOf (Wr.body k l)⟩
end Ms
abbrev noFr : Fr := ⟨0, none, 0, [], 0⟩
abbrev KeepT (D : Nat → Prop) (_ : Td) (X Y : World) : Prop := KeepW D noFr X Y
abbrev TdOk (l : List UInt8) (pre : List Td) (x : Td) (_ : World) : Prop := (∀ i, i ≤ pre.length → tgo i l = true) ∧ x = tAt pre.length l
theorem loadFnT {b o : Nat} {v : Value} {W : World} (hc : W.cell? ⟨b, o, none⟩ = some v) : (Instr.loadAt 114 (.pointer (some ⟨b, o, none⟩))).run Tryz.prog W = .ok v W := by
  go_simp
theorem KeepW.later {D : Nat → Prop} {x : Fr} {X Y : World} (h : Later X Y) : KeepW D x X Y := ⟨h.size, fun b hb _ _ => h.block b hb⟩
set_option maxRecDepth 100000 in
set_option maxHeartbeats 4000000 in
theorem mall1_seq (l : List UInt8) (gs gf gd : Nat) (A : Option Addr) (n c : Nat) (w : World) (n1 : Nat) (hn1 : 5 ≤ n1) (D : Nat → Prop) (hDw : ∀ b, D b → b < w.heap.size + 2) (hDs : ¬ D gs) (hDf : ¬ D gf) (hDd : ¬ D gd) (hn : l.length = n) (hc : n ≤ c) (hcm : c ≤ 9223372036854775807) (hnm : n ≤ 140737488355328) (hA : Rd w A l) (hAg : ∀ ad, A = some ad → ad.block = gd) (hk : Row w gf 32 #[.slice A n c]) (hs : Row w gs 112 #[.func (.func 104) #[] #[.pointer (some ⟨gf, 0, none⟩)]]) (hgd : gd < w.heap.size) :
    SeqW Fence.wide n1 Tryz.prog 52 #[.pointer (some ⟨gs, 0, none⟩)] tdE (KeepT D) (fun xs => tgo xs.length l = false ∧ ∀ k, k < xs.length → tgo k l = true) (fun _ => True) (TdOk l) (fun _ => False) w := fun k0 J Jx W hW hW2 hJ hJx hY h0 => by
  have hkW := hk.belowAll hW
  have hsW := hs.belowAll hW
  have hAW := hA.below hW
  have hgf : gf < w.heap.size := hk.lt
  have hgs : gs < w.heap.size := hs.lt
  have HY := Lib.hid hY
  have HJ := Lib.hid hJ
  have HJx := Lib.hid hJx
  have HN := Lib.hid hn
  clear hY hJ hJx hk hs hA hW hn
  refine callsIn_of_wp_marks Tryz.func52 rfl trivial ?_ rfl
  simp only [Tryz.ntmps52, List.size_toArray, List.length_cons, List.length_nil, Nat.reduceAdd, Nat.reduceSub, Array.replicate_succ, Array.replicate_zero, List.push_toArray, List.append_toArray, List.nil_append, List.cons_append]
  have c1 : W.cell? ⟨gs, 0, none⟩ = some (.func (.func 104) #[] #[.pointer (some ⟨gf, 0, none⟩)]) := (hsW.cell 0).trans rfl
  have k2 := Row.new W 114 #[.func (.yield k0) #[] #[]]
  have hb3 : Below W.heap.size W (W.alloc (.cells #[.func (.yield k0) #[] #[]] 114)) := below_new W _
  have c13 : (W.alloc (.cells #[.func (.yield k0) #[] #[]] 114)).cell? ⟨gs, 0, none⟩ = some (.func (.func 104) #[] #[.pointer (some ⟨gf, 0, none⟩)]) := ((hsW.belowAll hb3).cell 0).trans rfl
  have hw3s : (W.alloc (.cells #[.func (.yield k0) #[] #[]] 114)).heap.size = W.heap.size + 1 := World.size_alloc _ _
  gi_wp2
  refine wpIn_scope_wide ?_
  gi_wp2
  refine wpIn_label ?_
  gi_wp2
  obtain ⟨q2, hq2⟩ : ∃ q, q = W.heap.size := ⟨_, rfl⟩
  obtain ⟨w3, hw3⟩ : ∃ x, x = W.alloc (.cells #[.func (.yield k0) #[] #[]] 114) := ⟨_, rfl⟩
  rw [← hw3] at k2 hb3 hw3s ⊢
  rw [← hq2] at k2 hw3s ⊢
  have hA3 := hAW.below hb3
  have hkf3 := hkW.belowAll hb3
  have hJ3 := HJ.out.below h0 hb3
  have hD3 : ∀ b, D b → b < q2 := fun b hb => by have := hDw b hb; omega
  have hn1f : ¬ (D gf ∨ gf = w3.heap.size + 1) := by
    rintro (h | h)
    · exact hDf h
    · omega
  have hn1d : ¬ (D gd ∨ gd = w3.heap.size + 1) := by
    rintro (h | h)
    · exact hDd h
    · omega
  have hseq := frames1_seq l gf gd A n c w3 (n1 - 1) (by omega) (fun b => D b ∨ b = w3.heap.size + 1) (fun b hb => by rcases hb with h | h; have := hD3 b h; omega; omega) hn1f hn1d HN.out hc hcm hA3 hAg hkf3 (by omega)
  have HS := Lib.hid hseq
  have HW3 := Lib.hid hw3
  have HQ2 := Lib.hid hq2
  clear hseq h0 hkW hAW c1 c13 hsW hkf3 hA3 hw3 hq2
  refine wpIn_name fun T0 hT0 => ?_
  refine wpIn_range_W (α := Fr) (Kp := KeepW (fun b => D b ∨ b = w3.heap.size + 1)) rfl (by omega) (gf := 104) (lb := #[.pointer (some ⟨gf, 0, none⟩)]) (by rw [hT0]; rfl) trivial (enters_of Tryz.func104 (by kernel_rfl) rfl)
    HS.out (fun r h => h.elim) (fun h k => h.trans k) (fun x W o => KeepW.put W o (.inr rfl)) (Below.refl _ _) (fun _ => rfl)
    (fun pre X => (∃ pre' : List Td, pre'.length = pre.length ∧ J pre' X) ∧ (∀ i, i < pre.length → tgo i l = true) ∧ Row X q2 114 #[.func (.yield k0) #[] #[]])
    (fun c _ X => c = Code.exit 0 ∧ ((∃ xs : List Td, (tgo xs.length l = false ∧ ∀ k, k < xs.length → tgo k l = true) ∧ J xs X) ∨ ∃ pre' : List Td, Jx pre' X))
    (fun pre X Y ⟨⟨pre', h1, h2⟩, h3, h5⟩ hs => ⟨⟨pre', h1, HJ.out _ _ _ h2 (hs.mono fun k hk => ⟨by have := HQ2.out; omega, fun h => h.elim⟩)⟩, h3, h5.same hs ⟨by omega, fun h => h.elim⟩⟩)
    (fun c pre X Y ⟨h1, h2⟩ hs => ⟨h1, by
      rcases h2 with ⟨xs, hx, hj⟩ | ⟨pre', hj⟩
      · exact .inl ⟨xs, hx, HJ.out _ _ _ hj (hs.mono fun k hk => ⟨by have := HQ2.out; omega, fun h => h.elim⟩)⟩
      · exact .inr ⟨pre', HJx.out _ _ _ hj (hs.mono fun k hk => ⟨by have := HQ2.out; omega, fun h => h.elim⟩)⟩⟩)
    ⟨⟨[], rfl, hJ3⟩, by simp, k2⟩
    (fun pre x a' X => a' = { tmps := ((((T0.setIfInBounds 8 (.int .i64 x.at_)).setIfInBounds 9 (.slice x.A x.body.length x.c)).setIfInBounds 3 (.int .i64 x.at_)).setIfInBounds 4 (.slice x.A x.body.length x.c)), defers := [] } ∧ FrOk true (w3.heap.size + 2) l pre x X)
    (fun pre x a' X o ⟨h1, h2, h3, h4, h5, h6, h7⟩ => ⟨h1, h2, h3, h4, h5.keep (fun b _ e => World.putObj_heap_other (by intro e2; subst e2; have := (h5.at_ _ e).1; omega)), h6, by simpa [World.putObj] using h7⟩) ?assign ?body ?done ?stop
  case assign =>
    intro l0 pre x X K hXs hi hok hK
    have HK := Lib.hid hK
    have HI := Lib.hid hi
    have HOK := Lib.hid hok
    clear hK hi hok
    have e89 : ((#[8, 9] : Array Tmp).zip (frE x)).foldl (fun t (p, v) => t.setIfInBounds p v) T0 = (T0.setIfInBounds 8 (.int .i64 x.at_)).setIfInBounds 9 (.slice x.A x.body.length x.c) := by simp
    rw [e89, hT0]
    clear e89
    simp only [List.setIfInBounds_toArray, List.set_cons_succ, List.set_cons_zero]
    gi_wp2
    exact HK.out _ _ (KeepsFrom.refl _ _) (KeepW.refl _ _ _) HI.out ⟨by rw [hT0]; rfl, HOK.out⟩
  case body =>
    rintro l0 pre x a' X hl hlo hXs ⟨⟨pre', h1, h2⟩, h3, h5⟩ ⟨rfl, hok⟩
    obtain ⟨g1, g2, g3, hown, g5, g6⟩ := hok
    rw [if_pos rfl] at g3
    obtain ⟨A2, c2, e2, hc2, hcm2, hrd2⟩ := hown.slice
    injection e2 with e3 _ e5
    subst e3 e5
    have hbl : x.body.length ≤ 140737488355328 := by
      have h6 := (Wr.split_bounds (Wr.rest pre.length l)).2.2
      have h7 := Wr.rest_len pre.length l
      have h8 := HN.out
      rw [g2]
      unfold Wr.body
      omega
    have htl := told_any x.A x.body.length x.c x.body X rfl hc2 hcm2 hbl hrd2
    obtain ⟨ok, hok⟩ : ∃ b, okT x.body = b := ⟨_, rfl⟩
    have hTE : toldE x.body = if ok = true then 0 else 210 := by unfold toldE; rw [hok]
    rw [hTE] at htl
    have htg : tgo pre.length l = ok := by unfold tgo; rw [g1, ← g2, hok]; rfl
    have hTw := toldOf_wf x.body
    have hta : toldOf (Wr.body pre.length l) = toldOf x.body := by rw [g2]
    have hat : x.at_ = Wr.upto (pre.length + 1) l := g3
    generalize toldOf x.body = T at *
    have HTL := Lib.hid htl
    have HTG := Lib.hid htg
    have HTA := Lib.hid hta
    have HAT := Lib.hid hat
    have HJ2 := Lib.hid h2
    clear htl hok hTE htg hta g3 g2 hat hrd2 hown h2
    rw [hT0]
    simp only [List.setIfInBounds_toArray, List.set_cons_succ, List.set_cons_zero]
    have hqX : q2 < X.heap.size := h5.lt
    have hXW : W.heap.size ≤ X.heap.size := by have := HQ2.out; omega
    have hplen : (pre ++ [x]).length = pre.length + 1 := by simp
    cases ok
    · gi_wp2_with (first
        | (refine ⟨trivial, ?_⟩; gi_at_call 53; refine (CallsIn.inRound l0 (callsIn_wide.2 HTL.out)).mono ?_; rintro e W9 ⟨rfl, hL9⟩; obtain ⟨w9, hst, k9, hL9b⟩ := newTold W9 hTw; have hL : Later X w9 := Later.step hL9 hL9b; have hJ9 := HJ.out.below HJ2.out (hL.below.mono hXW))
        | (refine ⟨trivial, fun _ => by omega, (CallsIn.inRound l0 (callsIn_wide.2 HTL.out)).mono ?_⟩; rintro e W9 ⟨rfl, hL9⟩; obtain ⟨w9, hst, k9, hL9b⟩ := newTold W9 hTw; have hL : Later X w9 := Later.step hL9 hL9b; have hJ9 := HJ.out.below HJ2.out (hL.below.mono hXW))
        | (refine wpListIn_allocR rfl 48 rfl (allocTold _) ?_)
        | (refine wpListIn_storeR rfl 48 (.tmp 5) (.tmp 13) rfl (.pointer (some ⟨W9.heap.size, 0, none⟩)) (.agg (toldC T)) rfl rfl hst ?_)
        | (guard_target =~ (∀ f : FuncId, none = some f → _) ∧ _; refine ⟨fun f h => trivial, ?_⟩)
        | fail)
      exact ⟨KeepsFrom.of_later hL, KeepW.later hL, rfl, .inl ⟨pre', ⟨by rw [h1]; exact HTG.out, fun k hk => h3 k (by omega)⟩, hJ9⟩⟩
    · gi_wp2_with (first
        | (refine ⟨trivial, ?_⟩; gi_at_call 53; refine (CallsIn.inRound l0 (callsIn_wide.2 HTL.out)).mono ?_; rintro e W9 ⟨rfl, hL9⟩; obtain ⟨w9, hst, k9, hL9b⟩ := newTold W9 hTw; have hL : Later X w9 := Later.step hL9 hL9b; have hJ9 := HJ.out.below HJ2.out (hL.below.mono hXW); have hl2 := loadFnT (((h5.later hL).cell 0).trans rfl); have hld := loadTold hTw k9; obtain ⟨fn, tmps, assign, body, hy, hR⟩ := YieldAt.inRound (l' := l0) (k := n1 - 1 - 1 - 1) (HY.out pre' ⟨x.at_, T⟩ w9 hJ9 ⟨fun i hi => by (rw [h1] at hi; by_cases e : i = pre.length; rw [e]; exact HTG.out; exact h3 i (by omega)), by unfold tAt; rw [h1, HTA.out, HAT.out]⟩))
        | (refine ⟨trivial, fun _ => by omega, (CallsIn.inRound l0 (callsIn_wide.2 HTL.out)).mono ?_⟩; rintro e W9 ⟨rfl, hL9⟩; obtain ⟨w9, hst, k9, hL9b⟩ := newTold W9 hTw; have hL : Later X w9 := Later.step hL9 hL9b; have hJ9 := HJ.out.below HJ2.out (hL.below.mono hXW); have hl2 := loadFnT (((h5.later hL).cell 0).trans rfl); have hld := loadTold hTw k9; obtain ⟨fn, tmps, assign, body, hy, hR⟩ := YieldAt.inRound (l' := l0) (k := n1 - 1 - 1 - 1) (HY.out pre' ⟨x.at_, T⟩ w9 hJ9 ⟨fun i hi => by (rw [h1] at hi; by_cases e : i = pre.length; rw [e]; exact HTG.out; exact h3 i (by omega)), by unfold tAt; rw [h1, HTA.out, HAT.out]⟩))
        | (refine wpListIn_allocR rfl 48 rfl (allocTold _) ?_)
        | (refine wpListIn_storeR rfl 48 (.tmp 5) (.tmp 13) rfl (.pointer (some ⟨W9.heap.size, 0, none⟩)) (.agg (toldC T)) rfl rfl hst ?_)
        | (refine wpListIn_loadG rfl 114 (.tmp 2) rfl (.pointer (some ⟨q2, 0, none⟩)) rfl hl2 ?_)
        | (refine wpListIn_loadG rfl 48 (.tmp 5) rfl (.pointer (some ⟨W9.heap.size, 0, none⟩)) rfl hld ?_)
        | fail)
      refine ⟨fun _ => by omega, hR.mono ?_⟩
      have hkW : ∀ Y, KeepW D noFr w9 Y → KeepW (fun b => D b ∨ b = w3.heap.size + 1) x X Y := fun Y hk => (KeepW.later hL).trans ⟨hk.size, fun b hb hd _ => hk.block b hb (fun k => hd (.inl k)) (fun o e => by cases e)⟩
      have hkF : ∀ Y, KeepW D noFr w9 Y → KeepsFrom w3.heap.size X Y := fun Y hk => (KeepsFrom.of_later hL).trans (hk.from (fun b h => by have := hD3 b h; omega) (fun b o e => by cases e))
      have hrq := h5.later hL
      rintro e Y (⟨rfl, hJ5, hk5⟩ | ⟨rfl, hJx5, hk5⟩)
      · gi_wp2
        refine ⟨hkF Y hk5, hkW Y hk5, ⟨pre' ++ [⟨x.at_, T⟩], by simp [h1], hJ5⟩, fun i hi => ?_, hk5.row hrq (fun h => by have := hD3 _ h; omega) (fun o e => by cases e)⟩
        rw [hplen] at hi
        by_cases e : i = pre.length
        · rw [e]; exact HTG.out
        · exact h3 i (by omega)
      · gi_wp2
        exact ⟨hkF Y hk5, hkW Y hk5, rfl, .inr ⟨_, hJx5⟩⟩
  case done =>
    rintro D0 xs X hD hS ⟨⟨pre', h1, h2⟩, h3, h5⟩ hK
    gi_wp2
    rw [Exit.noGoto_normal]
    refine ⟨by simp, .inl ⟨_, _, rfl, run_takeDeferred hK, ?_⟩⟩
    refine ⟨_, results_none rfl _ _ _, ⟨_, rfl⟩, .inl ⟨pre', ⟨by rw [h1]; unfold tgo; rw [hS.1]; rfl, fun k hk => h3 k (by omega)⟩, ?_⟩⟩
    exact HJ.out.below h2 (below_put _ _ _ _ (by have := HQ2.out; omega) (by have := (Array.getElem?_eq_some_iff.1 hK).1; have := HQ2.out; omega))
  case stop =>
    rintro D0 c' pre X hD hSp ⟨rfl, hx⟩ hK
    gi_wp2
    rw [Exit.noGoto_normal]
    refine ⟨by simp, .inl ⟨_, _, rfl, run_takeDeferred hK, ?_⟩⟩
    have hbp : Below W.heap.size X (X.putObj D0 (.deferred none)) := below_put _ _ _ _ (by have := HQ2.out; omega) (by have := (Array.getElem?_eq_some_iff.1 hK).1; have := HQ2.out; omega)
    refine ⟨_, results_none rfl _ _ _, ⟨_, rfl⟩, ?_⟩
    rcases hx with ⟨xs, h1, h2⟩ | ⟨pre', h2⟩
    · exact .inl ⟨xs, h1, HJ.out.below h2 hbp⟩
    · exact .inr ⟨pre', trivial, HJx.out.below h2 hbp⟩
end Go.Proofs.YtcajhdmppfiaeaaGreat
namespace Go.Proofs.YtcajhdmppfiaeaaGreat
open Go.RowKit Ms
theorem mAll_any (A : Option Addr) (n c : Nat) (l : List UInt8) (w : World) (hn : l.length = n) (hm : n ≤ 140737488355328) (hr : Rd w A l) :
    Calls Tryz.prog 18 #[.slice A n c] w fun e w' => ∃ gs gf gd A1 c1, e = .returned (.func (.func 52) #[] #[.pointer (some ⟨gs, 0, none⟩)]) ∧ Row w' gf 32 #[.slice A1 n c1] ∧ Row w' gs 112 #[.func (.func 104) #[] #[.pointer (some ⟨gf, 0, none⟩)]] ∧ Rd w' A1 l ∧ n ≤ c1 ∧ c1 ≤ maxLen ∧ (∀ ad, A1 = some ad → ad.block = gd) ∧ w.heap.size ≤ gs ∧ w.heap.size ≤ gf ∧ w.heap.size ≤ gd ∧ gd < w'.heap.size ∧ Below w.heap.size w w' := by
  have hmf : ∀ (fn : Fn) (first cap : Array Value) (w : World), (Instr.makeFunc fn first cap).run Tryz.prog w = .ok (.func fn first cap) w := fun _ _ _ _ => rfl
  have hf := wFrames_any A n c l w hn hm hr
  refine Calls.post fun Φ HΦ => ?_
  go_enter Tryz.func18, Tryz.ntmps18
  go_upto_region 2 with (first
    | (go_at_call 51; refine hf.mono ?_; clear hf; rintro e w2 ⟨gf, gd, A1, c1, rfl, hrow, hrd, h1, h2, h3, h4, h5, h6, hb⟩)
    | fail)
  have ks := Row.new w2 112 #[.func (.func 104) #[] #[.pointer (some ⟨gf, 0, none⟩)]]
  have hL : Later w2 (w2.alloc (.cells #[.func (.func 104) #[] #[.pointer (some ⟨gf, 0, none⟩)]] 112)) := below_new w2 _
  go_wp2_with fail
  exact HΦ.out _ _ ⟨w2.heap.size, gf, gd, A1, c1, rfl, hrow.later hL, ks, hrd.later hL, h1, h2, h3, hb.size, h4, h5, Nat.lt_of_lt_of_le h6 hL.size, Later.step hb hL⟩
theorem flat_at {α : Type} (f : α → List Value) (z : Nat) : ∀ (ds : List α), (∀ x ∈ ds, (f x).length = z) → ∀ (k : Nat) (h : k < ds.length) (j : Nat), j < z → ((ds.map f).flatten)[k * z + j]? = (f ds[k])[j]?
  | d :: ds, hz, 0, _, j, hj => by
    rw [List.map_cons, List.flatten_cons, Nat.zero_mul, Nat.zero_add, List.getElem?_append_left (by rw [hz d List.mem_cons_self]; exact hj)]
    rfl
  | d :: ds, hz, k + 1, h, j, hj => by
    have ih := flat_at f z ds (fun x hx => hz x (List.mem_cons_of_mem _ hx)) k (by simpa using h) j hj
    have h1 := hz d List.mem_cons_self
    have e : (k + 1) * z = k * z + z := by rw [Nat.add_mul, Nat.one_mul]
    rw [List.map_cons, List.flatten_cons, List.getElem?_append_right (by omega), show (k + 1) * z + j - (f d).length = k * z + j by omega]
    simpa using ih
theorem flat_len {α : Type} (f : α → List Value) (z : Nat) : ∀ (ds : List α), (∀ x ∈ ds, (f x).length = z) → ((ds.map f).flatten).length = ds.length * z
  | [], _ => by simp
  | d :: ds, hz => by
    rw [List.map_cons, List.flatten_cons, List.length_append, flat_len f z ds (fun x hx => hz x (List.mem_cons_of_mem _ hx)), hz d List.mem_cons_self, List.length_cons, Nat.add_mul, Nat.one_mul, Nat.add_comm]
end Go.Proofs.YtcajhdmppfiaeaaGreat
namespace Go.Proofs.YtcajhdmppfiaeaaGreat
open Go.RowKit Ms
namespace Ms
end Ms
end Go.Proofs.YtcajhdmppfiaeaaGreat
namespace Go.Proofs.YtcajhdmppfiaeaaGreat
open Go.RowKit Ms
section
variable {P : Program} {W : World}
theorem geqI {t : TypeId} {k : IntKind} {i j : Int} (h : i < j) : (binOp .geq t (.int k i) (.int k j)).run P W = .ok (.bool false) W := by
  have h1 : decide (j ≤ i) = false := decide_eq_false (by omega)
  go_simp
theorem neqI_me (t : TypeId) (k : IntKind) (i : Int) : (binOp .neq t (.int k i) (.int k i)).run P W = .ok (.bool false) W := by rw [neqI, bne_self_eq_false]
end
theorem neqToldMe {t : Tell} (h : t.wf) (W : World) : (binOp .neq 48 (.agg (toldC t)) (.agg (toldC t))).run Tryz.prog W = .ok (.bool false) W := by
  rw [neqTold h h, decide_eq_true rfl]
  rfl
theorem eqlSeqNil {W : World} (fn : Fn) (a b : Array Value) : (binOp .eql 51 (.func fn a b) .nilFunc).run Tryz.prog W = .ok (.bool false) W := by
  first | kernel_rfl | rfl
theorem retM {F : Fence} {n : Nat} {P : Program} {fn : Func} {R : Ending → World → Prop} {T : Array Value} {w : World} {v : Value} (h : (results fn T).run P w = .ok v w) (hR : R (.returned v) w) : bodyPostM F n P fn R .ret { tmps := T, defers := [] } w := ⟨v, h, hR⟩
end Go.Proofs.YtcajhdmppfiaeaaGreat
namespace Go.Proofs.YtcajhdmppfiaeaaGreat
open Go.RowKit Ms
attribute [local go_sem] Oper.semAt_some
end Go.Proofs.YtcajhdmppfiaeaaGreat
namespace Go.Proofs.YtcajhdmppfiaeaaGreat
open Go.ChangeShapes Go.WideShapes Go.ChangeAt Go.RowKit Ms
def toldT : List TypeId := List.replicate 32 5 ++ saidT
set_option maxRecDepth 100000 in
theorem told_cells {w : World} {r : Reach} {b : Nat} {cs : Array Value} (hsz : cs.size = 334) (hcell : ∀ i, i < 334 → ∃ u, toldT[i]? = some u ∧ Cell.okWide Tryz.prog w r b u (cs.getD i undef)) : ∃ t : Tell, t.wf ∧ t.s.route.length ≤ 9223372036854775807 ∧ cs = toldC t := by
  have hlen : toldT.length = 334 := by decide +kernel
  have hls : saidT.length = 302 := by decide +kernel
  have hget : ∀ i, i < 334 → cs[i]? = some (cs.getD i undef) := fun i hi => by
    rw [Array.getElem?_eq_getElem (by omega)]
    simp [Array.getD, hsz, hi]
  have hby : ∀ i, i < 32 → ∃ n : Int, cs.getD i undef = .int .u8 n ∧ 0 ≤ n ∧ n ≤ 255 := fun i hi => by
    obtain ⟨u, h1, h2⟩ := hcell i (by omega)
    unfold toldT at h1
    rw [List.getElem?_append_left (by simp; omega), List.getElem?_replicate, if_pos hi] at h1
    injection h1 with h1
    subst h1
    obtain ⟨n, e, hn⟩ := cellW_int Tryz.underlying5 h2
    refine ⟨n, e, ?_⟩
    simp [IntKind.has, IntKind.min, IntKind.max, IntKind.signed, IntKind.bits] at hn
    omega
  have hes : (cs.extract 32 334).size = 302 := by rw [Array.size_extract]; omega
  have heg : ∀ i, i < 302 → (cs.extract 32 334)[i]? = some (cs.getD (32 + i) undef) := fun i hi => by
    rw [Array.getElem?_extract, if_pos (by omega)]
    exact hget (32 + i) (by omega)
  have hsaid : Value.okWide Tryz.prog w r b 29 (.agg (cs.extract 32 334)) := by
    unfold Value.okWide
    rw [Tryz.underlying29]
    refine ⟨_, rfl, by rw [hes]; kernel_rfl, saidT, saidT_eq, ⟨1, by rw [hes, hls]⟩, fun i v hv => ?_⟩
    have hi : i < 302 := by
      rcases Nat.lt_or_ge i 302 with h | h
      · exact h
      · rw [Array.getElem?_eq_none (by omega)] at hv; cases hv
    rw [heg i hi] at hv
    injection hv with hv
    subst hv
    obtain ⟨u, h1, h2⟩ := hcell (32 + i) (by omega)
    unfold toldT at h1
    rw [List.getElem?_append_right (by simp)] at h1
    refine ⟨u, ?_, h2⟩
    rw [hls, Nat.mod_eq_of_lt hi]
    simpa using h1
  obtain ⟨s, hw, hm, e⟩ := open_said hsaid
  injection e with e
  have hh : ((List.range 32).map fun i => sByV (cs.getD i undef)).length = 32 := by simp
  refine ⟨⟨(List.range 32).map fun i => sByV (cs.getD i undef), s⟩, ⟨hh, hw⟩, hm, ?_⟩
  apply Array.ext_getElem?
  intro i
  by_cases hi : i < 32
  · have h1 := toldC_h (t := ⟨(List.range 32).map fun i => sByV (cs.getD i undef), s⟩) ⟨hh, hw⟩ i hi
    rw [Nat.zero_add] at h1
    rw [h1, hC_full _ hh, hget i (by omega), List.map_map, List.getElem?_toArray, List.getElem?_map, List.getElem?_range (by omega)]
    obtain ⟨n, e2, h0, h5⟩ := hby i hi
    show _ = some (byteV (sByV (cs.getD i undef)))
    rw [e2]
    unfold byteV sByV
    rw [UInt8.toNat_ofNat']
    congr 2
    omega
  · by_cases hi2 : i < 334
    · obtain ⟨k, rfl⟩ : ∃ k, i = 32 + k := ⟨i - 32, by omega⟩
      rw [toldC_s (t := ⟨(List.range 32).map fun i => sByV (cs.getD i undef), s⟩) ⟨hh, hw⟩ k, ← e, heg k (by omega), hget (32 + k) (by omega)]
    · rw [Array.getElem?_eq_none (by omega), Array.getElem?_eq_none (by rw [toldC_size ⟨hh, hw⟩]; omega)]
end Go.Proofs.YtcajhdmppfiaeaaGreat
namespace Go.Proofs.YtcajhdmppfiaeaaGreat
open Go.RowKit Ms
namespace Wr
theorem be_succ (k n : Nat) : be (k + 1) n = be k (n / 256) ++ [UInt8.ofNat n] := by
  unfold be
  rw [List.range_succ, List.map_append, List.map_singleton]
  congr 1
  · apply List.map_congr_left
    intro i hi
    have hi := List.mem_range.1 hi
    unfold at_
    rw [Nat.div_div_eq_div_mul, show (256 : Nat) * 2 ^ (8 * (k - 1 - i)) = 2 ^ (8 * (k + 1 - 1 - i)) from by
      rw [show 8 * (k + 1 - 1 - i) = 8 + 8 * (k - 1 - i) from by omega, Nat.pow_add]]
  · unfold at_
    simp
theorem be_val : ∀ (n : Nat) (l : List UInt8), l.length = n → be n (val l) = l
  | 0, l, h => by
    rw [List.eq_nil_of_length_eq_zero h]; rfl
  | n + 1, l, h => by
    have hne : l ≠ [] := fun e => by rw [e] at h; cases h
    obtain ⟨l', c, rfl⟩ : ∃ l' c, l = l' ++ [c] := ⟨l.dropLast, l.getLast hne, (List.dropLast_concat_getLast hne).symm⟩
    have hl : l'.length = n := by simpa using h
    have hc := c.toNat_lt
    rw [be_succ, val_snoc, show (256 * val l' + c.toNat) / 256 = val l' from by omega, be_val n l' hl]
    congr 2
    apply UInt8.toNat.inj
    rw [UInt8.toNat_ofNat']
    omega
theorem first_back (l : List UInt8) (h : 0 < (first l).2) : l.take (first l).2.toNat = bytes (first l).1 := by
  rcases l with _ | ⟨c, r⟩
  · simp [first] at h
  · rw [first] at h ⊢
    by_cases h0 : many c = 0
    · rw [if_pos h0]
      have hc : c.toNat < 253 := by
        have h1 := c.toNat_lt
        unfold many at h0
        split at h0
        · cases h0
        · split at h0
          · cases h0
          · split at h0
            · cases h0
            · rename_i a b d
              rcases Nat.lt_or_ge c.toNat 253 with h2 | h2
              · exact h2
              · exfalso
                have h3 : c.toNat = 253 ∨ c.toNat = 254 ∨ c.toNat = 255 := by omega
                rcases h3 with h3 | h3 | h3
                · exact a (UInt8.toNat.inj h3)
                · exact b (UInt8.toNat.inj h3)
                · exact d (UInt8.toNat.inj h3)
      show [c] = bytes c.toNat
      rw [bytes, if_pos hc]
      simp
    · rw [if_neg h0] at h ⊢
      by_cases h1 : r.length < many c
      · rw [if_pos h1] at h; exact absurd h (by decide)
      · rw [if_neg h1] at h ⊢
        have hb := be_val (many c) (r.take (many c)) (by rw [List.length_take]; omega)
        generalize val (r.take (many c)) = v at *
        by_cases h2 : 4611686018427387904 < v ∨ (bytes v).length ≠ 1 + many c
        · rw [if_pos h2] at h; exact absurd h (by decide)
        · rw [if_neg h2]
          have h3 : (bytes v).length = 1 + many c := by
            rcases Nat.decEq (bytes v).length (1 + many c) with h4 | h4
            · exact absurd (.inr h4) h2
            · exact h4
          have e : (1 + (many c : Int)).toNat = many c + 1 := by omega
          show (c :: r).take (1 + (many c : Int)).toNat = bytes v
          rw [e, List.take_succ_cons, ← hb]
          have hl := bytes_len v
          rw [h3] at hl
          have hm : (c = 253 ∧ many c = 2) ∨ (c = 254 ∧ many c = 4) ∨ (c = 255 ∧ many c = 8) := by
            unfold many at h0 ⊢
            by_cases a : c = 253
            · exact .inl ⟨a, if_pos a⟩
            · rw [if_neg a] at h0 ⊢
              by_cases b : c = 254
              · exact .inr (.inl ⟨b, if_pos b⟩)
              · rw [if_neg b] at h0 ⊢
                by_cases d : c = 255
                · exact .inr (.inr ⟨d, if_pos d⟩)
                · rw [if_neg d] at h0; exact absurd rfl h0
          by_cases g1 : v < 253
          · rw [if_pos g1] at hl; omega
          · rw [if_neg g1] at hl
            rw [bytes, if_neg g1]
            by_cases g2 : v < 65536
            · rw [if_pos g2] at hl ⊢
              rcases hm with ⟨rfl, hm⟩ | ⟨rfl, hm⟩ | ⟨rfl, hm⟩
              · rw [hm]
              · omega
              · omega
            · rw [if_neg g2] at hl ⊢
              by_cases g3 : v < 4294967296
              · rw [if_pos g3] at hl ⊢
                rcases hm with ⟨rfl, hm⟩ | ⟨rfl, hm⟩ | ⟨rfl, hm⟩
                · omega
                · rw [hm]
                · omega
              · rw [if_neg g3] at hl ⊢
                rcases hm with ⟨rfl, hm⟩ | ⟨rfl, hm⟩ | ⟨rfl, hm⟩
                · omega
                · omega
                · rw [hm]
end Wr
namespace Ms
theorem bytes_pos (n : Nat) : 0 < (Wr.bytes n).length := by rw [Wr.bytes_len]; split <;> (try split) <;> (try split) <;> omega
theorem numR_lay (n : Nat) (m : Int) (rest : List UInt8) (hn : (n : Int) ≤ m) (hm : n ≤ 4611686018427387904) : Wr.numR (Wr.bytes n ++ rest) false m = ((rest, false), (n : Int), 0) := by
  unfold Wr.numR
  have hf := Wr.first_bytes n rest hm
  have hb := bytes_pos n
  rw [if_neg (by simp), if_neg (by omega), if_pos (by unfold Wr.may; rw [hf]; exact ⟨by show 0 < ((Wr.bytes n).length : Int); omega, hn⟩), hf]
  simp only [Int.toNat_natCast]
  rw [List.drop_left' rfl]
theorem hashR_lay (h rest : List UInt8) (hh : h.length = 32) : Wr.hashR (h ++ rest) false = ((rest, false), h, 0) := by
  unfold Wr.hashR
  rw [if_neg (by simp), if_pos (by rw [List.length_append]; omega), List.drop_left' hh, List.take_left' hh]
theorem textR_lay (t rest : List UInt8) (ht : t.length ≤ 512) : Wr.textR (Wr.bytes t.length ++ t ++ rest) false 512 = ((rest, false), t, 0) := by
  have hf := Wr.first_bytes t.length (t ++ rest) (by omega)
  have hb := bytes_pos t.length
  rw [List.append_assoc]
  have hok : Wr.textOk (Wr.bytes t.length ++ (t ++ rest)) 512 = true := by
    unfold Wr.textOk
    rw [Bool.and_eq_true, decide_eq_true_eq, decide_eq_true_eq]
    refine ⟨⟨?_, ?_⟩, ?_⟩
    · rw [hf]; show 0 < ((Wr.bytes t.length).length : Int); omega
    · rw [hf]; show (t.length : Int) ≤ 512; omega
    · rw [hf]
      simp only [Int.toNat_natCast, List.length_append]
      omega
  unfold Wr.textR
  rw [if_neg (by simp), if_neg (by omega), if_pos hok]
  unfold Wr.textRest Wr.textAt
  rw [hf]
  simp only [Int.toNat_natCast]
  rw [List.drop_left' rfl, List.drop_left' rfl, List.take_left' rfl]
def put1 (s r : Said) : Fld → Said
  | .num j _ => r.setN j (s.n j)
  | .hash j => r.setH j (s.h j)
  | .route => r.setR s.route
def okL (s : Said) : Fld → Prop
  | .num j m => 0 ≤ s.n j ∧ s.n j ≤ m ∧ m ≤ 4611686018427387904
  | .hash j => j < 9
  | .route => s.route.length ≤ 512
theorem take1_lay {s : Said} (hs : s.wf) (f : Fld) (rest : List UInt8) (r : Said) (h : okL s f) : take1 ⟨lay s f ++ rest, false, r⟩ f = ⟨rest, false, put1 s r f⟩ := by
  cases f with
  | num j m =>
    obtain ⟨h1, h2, h3⟩ := h
    simp only [take1, lay, put1]
    rw [numR_lay (s.n j).toNat m rest (by omega) (by omega)]
    simp only
    rw [Int.toNat_of_nonneg h1]
  | hash j =>
    have hh := hs j h
    simp only [take1, lay, put1]
    rw [hashR_lay _ rest hh]
    simp only
    unfold pad32
    rw [if_pos hh]
  | route =>
    simp only [take1, lay, put1]
    rw [textR_lay _ rest h]
theorem taken_lay {s : Said} (hs : s.wf) : ∀ (fs : List Fld) (r : Said) (rest : List UInt8), (∀ f ∈ fs, okL s f) → taken fs ⟨laid fs s ++ rest, false, r⟩ = ⟨rest, false, fs.foldl (put1 s) r⟩
  | [], r, rest, _ => by simp [taken, laid]
  | f :: fs, r, rest, h => by
    have ih := taken_lay hs fs (put1 s r f) rest (fun g hg => h g (List.mem_cons_of_mem _ hg))
    have e : laid (f :: fs) s ++ rest = lay s f ++ (laid fs s ++ rest) := by simp [laid]
    unfold taken at *
    rw [List.foldl_cons, e, take1_lay hs f _ r (h f List.mem_cons_self), ih, List.foldl_cons]
theorem kind_cases {k : Int} (h : 1 ≤ k ∧ k ≤ 14) : k = 1 ∨ k = 2 ∨ k = 3 ∨ k = 4 ∨ k = 5 ∨ k = 6 ∨ k = 7 ∨ k = 8 ∨ k = 9 ∨ k = 10 ∨ k = 11 ∨ k = 12 ∨ k = 13 ∨ k = 14 := by omega
theorem copy_back {s : Said} (hk : 1 ≤ s.kind ∧ s.kind ≤ 14) (h : zeroed (flds s.kind) s = blank s.kind) : (flds s.kind).foldl (put1 s) (blank s.kind) = s := by
  obtain ⟨k, a1, a2, a3, a4, a5, a6, a7, a8, a9, b0, b1, b2, b3, b4, b5, b6, b7, b8, b9, c0, c1, c2⟩ := s
  simp only at hk h ⊢
  rcases kind_cases hk with rfl | rfl | rfl | rfl | rfl | rfl | rfl | rfl | rfl | rfl | rfl | rfl | rfl | rfl
  all_goals
    simp [flds, zeroed, zero1, blank, Said.setN, Said.setH, Said.setR] at h
    simp [flds, put1, blank, Said.setN, Said.setH, Said.setR, Said.n, Said.h, h]
theorem okL_of {s : Said} (h : Ms.right s = true) : ∀ f ∈ flds s.kind, okL s f := by
  obtain ⟨hk, _, hid, hnu, hix, hex, ham, hsp⟩ := right_facts h
  have hro := right_route h
  unfold special at hsp
  obtain ⟨k, a1, a2, a3, a4, a5, a6, a7, a8, a9, b0, b1, b2, b3, b4, b5, b6, b7, b8, b9, c0, c1, c2⟩ := s
  simp only at hk hid hnu hix hex ham hro hsp
  intro f hf
  rcases kind_cases hk with rfl | rfl | rfl | rfl | rfl | rfl | rfl | rfl | rfl | rfl | rfl | rfl | rfl | rfl
  all_goals
    first
    | (exfalso; simp [flds] at hf; done)
    | (simp [flds] at hf
       try simp [termsB] at hsp
       first
       | (rcases hf with rfl | rfl | rfl | rfl | rfl | rfl | rfl | rfl | rfl <;> (first | (simp only [okL, Said.n, M, A]; done) | (simp only [okL, Said.n, M, A]; omega)))
       | (rcases hf with rfl | rfl | rfl | rfl | rfl <;> (first | (simp only [okL, Said.n, M, A]; done) | (simp only [okL, Said.n, M, A]; omega)))
       | (rcases hf with rfl | rfl | rfl <;> (first | (simp only [okL, Said.n, M, A]; done) | (simp only [okL, Said.n, M, A]; omega)))
       | (rcases hf with rfl | rfl <;> (first | (simp only [okL, Said.n, M, A]; done) | (simp only [okL, Said.n, M, A]; omega)))
       | (subst hf; (first | (simp only [okL, Said.n, M, A]; done) | (simp only [okL, Said.n, M, A]; omega))))
theorem final_body {s : Said} (hs : s.wf) (h : Ms.right s = true) : final (body s) = ⟨[], false, s⟩ := by
  obtain ⟨hk, hz, _⟩ := right_facts h
  have hst : start (body s) = ⟨laid (flds s.kind) s ++ [], false, blank s.kind⟩ := by
    unfold start body
    rw [numR_lay s.kind.toNat 14 _ (by omega) (by omega)]
    simp only [List.append_nil]
    rw [Int.toNat_of_nonneg (by omega)]
  unfold final
  rw [hst]
  show taken (flds s.kind) _ = _
  rw [taken_lay hs _ _ _ (okL_of h), copy_back hk hz]
theorem body_ok {s : Said} (hs : s.wf) (h : Ms.right s = true) : okB (body s) = true ∧ parse (body s) = s ∧ parseE (body s) = 0 := by
  have hf := final_body hs h
  have hok : okB (body s) = true := by unfold okB; rw [hf]; simp [h]
  exact ⟨hok, by unfold parse; rw [hok, hf]; rfl, by unfold parseE; rw [hok]; rfl⟩
def tgt : Fld → Nat
  | .num j _ => j
  | .hash j => 100 + j
  | .route => 200
theorem n_setN (s : Said) (j i : Nat) (v : Int) (hj : j < 12) : (s.setN j v).n i = if i = j then v else s.n i := by
  rcases j with _ | _ | _ | _ | _ | _ | _ | _ | _ | _ | _ | _ | j
  all_goals first | omega | skip
  all_goals rcases i with _ | _ | _ | _ | _ | _ | _ | _ | _ | _ | _ | _ | i
  all_goals first | rfl | (simp [Said.setN, Said.n])
theorem h_setH (s : Said) (j i : Nat) (v : List UInt8) (hj : j < 9) : (s.setH j v).h i = if i = j then v else s.h i := by
  rcases j with _ | _ | _ | _ | _ | _ | _ | _ | _ | j
  all_goals first | omega | skip
  all_goals rcases i with _ | _ | _ | _ | _ | _ | _ | _ | _ | i
  all_goals first | rfl | (simp [Said.setH, Said.h])
theorem h_setN (s : Said) (j i : Nat) (v : Int) : (s.setN j v).h i = s.h i := by
  rcases j with _ | _ | _ | _ | _ | _ | _ | _ | _ | _ | _ | _ | j <;> rfl
theorem n_setH (s : Said) (j i : Nat) (v : List UInt8) : (s.setH j v).n i = s.n i := by
  rcases j with _ | _ | _ | _ | _ | _ | _ | _ | _ | j <;> rfl
theorem r_setN (s : Said) (j : Nat) (v : Int) : (s.setN j v).route = s.route := by
  rcases j with _ | _ | _ | _ | _ | _ | _ | _ | _ | _ | _ | _ | j <;> rfl
theorem r_setH (s : Said) (j : Nat) (v : List UInt8) : (s.setH j v).route = s.route := by
  rcases j with _ | _ | _ | _ | _ | _ | _ | _ | _ | j <;> rfl
def okT1 : Fld → Bool
  | .num j m => decide (j < 12) && decide (0 ≤ m)
  | .hash j => decide (j < 9)
  | .route => true
theorem lay_take1 (r : RdS) (f g : Fld) (hg : okT1 g = true) (h : tgt g ≠ tgt f) (hf : okT1 f = true) : lay (take1 r g).s f = lay r.s f := by
  cases g with
  | num j m =>
    simp only [okT1, Bool.and_eq_true, decide_eq_true_eq] at hg
    cases f with
    | num i m' => simp only [take1, lay, tgt] at h ⊢; rw [n_setN _ _ _ _ hg.1, if_neg (fun e => h e.symm)]
    | hash i => simp only [take1, lay]; rw [h_setN]
    | route => simp only [take1, lay]; rw [r_setN]
  | hash j =>
    simp only [okT1, decide_eq_true_eq] at hg
    cases f with
    | num i m' => simp only [take1, lay]; rw [n_setH]
    | hash i => simp only [take1, lay, tgt] at h ⊢; rw [h_setH _ _ _ _ hg, if_neg (fun e => h (by rw [e]))]
    | route => simp only [take1, lay]; rw [r_setH]
  | route =>
    cases f with
    | num i m' => rfl
    | hash i => rfl
    | route => exact absurd rfl h
theorem lay_taken (f : Fld) (hf : okT1 f = true) : ∀ (fs : List Fld) (r : RdS), (∀ g ∈ fs, okT1 g = true ∧ tgt g ≠ tgt f) → lay (taken fs r).s f = lay r.s f
  | [], r, _ => rfl
  | g :: fs, r, h => by
    have ih := lay_taken f hf fs (take1 r g) (fun x hx => h x (List.mem_cons_of_mem _ hx))
    obtain ⟨h1, h2⟩ := h g List.mem_cons_self
    show lay (taken fs (take1 r g)).s f = _
    rw [ih, lay_take1 r f g h1 h2 hf]
theorem numR_inv {l : List UInt8} {bad : Bool} {m : Int} (hm : 0 ≤ m) (h : (Wr.numR l bad m).1.2 = false) : bad = false ∧ l = Wr.bytes (Wr.numR l bad m).2.1.toNat ++ (Wr.numR l bad m).1.1 := by
  unfold Wr.numR at h ⊢
  cases bad
  · rw [if_neg (by simp), if_neg (by omega)] at h ⊢
    by_cases hmay : Wr.may l m
    · rw [if_pos hmay]
      refine ⟨rfl, ?_⟩
      have hb := Wr.first_back l hmay.1
      simp only [Int.toNat_natCast]
      rw [← hb, List.take_append_drop]
    · rw [if_neg hmay] at h
      cases h
  · rw [if_pos rfl] at h
    cases h
theorem take1_inv {r : RdS} {f : Fld} (hf : okT1 f = true) (h : (take1 r f).bad = false) : r.bad = false ∧ r.l = lay (take1 r f).s f ++ (take1 r f).l := by
  cases f with
  | num j m =>
    simp only [okT1, Bool.and_eq_true, decide_eq_true_eq] at hf
    simp only [take1] at h
    obtain ⟨h1, h2⟩ := numR_inv hf.2 h
    refine ⟨h1, ?_⟩
    simp only [take1, lay]
    rw [n_setN _ _ _ _ hf.1, if_pos rfl]
    exact h2
  | hash j =>
    simp only [okT1, decide_eq_true_eq] at hf
    simp only [take1, lay] at h ⊢
    rw [h_setH _ _ _ _ hf, if_pos rfl]
    unfold Wr.hashR at h ⊢
    cases hb : r.bad
    · rw [hb] at h
      rw [if_neg (by simp)] at h ⊢
      by_cases h32 : 32 ≤ r.l.length
      · rw [if_pos h32]
        refine ⟨rfl, ?_⟩
        show r.l = pad32 (r.l.take 32) ++ r.l.drop 32
        unfold pad32
        rw [if_pos (by rw [List.length_take]; omega), List.take_append_drop]
      · rw [if_neg h32] at h; cases h
    · rw [hb, if_pos rfl] at h; cases h
  | route =>
    simp only [take1, lay] at h ⊢
    show _ ∧ r.l = Wr.bytes (Wr.textR r.l r.bad 512).2.1.length ++ (Wr.textR r.l r.bad 512).2.1 ++ _
    unfold Wr.textR at h ⊢
    cases hb : r.bad
    · rw [hb] at h
      rw [if_neg (by simp), if_neg (by omega)] at h ⊢
      by_cases hok : Wr.textOk r.l 512 = true
      · rw [if_pos hok]
        refine ⟨rfl, ?_⟩
        unfold Wr.textOk at hok
        rw [Bool.and_eq_true, decide_eq_true_eq, decide_eq_true_eq] at hok
        have hbk := Wr.first_back r.l hok.1.1
        have hlen : (Wr.textAt r.l).length = (Wr.first r.l).1 := by unfold Wr.textAt; rw [List.length_take, List.length_drop]; omega
        show r.l = Wr.bytes (Wr.textAt r.l).length ++ Wr.textAt r.l ++ Wr.textRest r.l
        rw [hlen, ← hbk]
        unfold Wr.textAt Wr.textRest
        rw [List.append_assoc, List.take_append_drop, List.take_append_drop]
      · rw [if_neg hok] at h; cases h
    · rw [hb, if_pos rfl] at h; cases h
theorem taken_inv : ∀ (fs : List Fld) (r : RdS), (∀ f ∈ fs, okT1 f = true) → (fs.map tgt).Nodup → (taken fs r).bad = false → r.bad = false ∧ r.l = laid fs (taken fs r).s ++ (taken fs r).l
  | [], r, _, _, h => ⟨h, by simp [laid, taken]⟩
  | f :: fs, r, hok, hnd, h => by
    have h' : (taken fs (take1 r f)).bad = false := h
    rw [List.map_cons, List.nodup_cons] at hnd
    obtain ⟨i1, i2⟩ := taken_inv fs (take1 r f) (fun g hg => hok g (List.mem_cons_of_mem _ hg)) hnd.2 h'
    have hf := hok f List.mem_cons_self
    obtain ⟨j1, j2⟩ := take1_inv hf i1
    refine ⟨j1, ?_⟩
    have hl : lay (taken fs (take1 r f)).s f = lay (take1 r f).s f := lay_taken f hf fs _ fun g hg => ⟨hok g (List.mem_cons_of_mem _ hg), fun e => hnd.1 (by rw [← e]; exact List.mem_map_of_mem hg)⟩
    show r.l = laid (f :: fs) (taken fs (take1 r f)).s ++ (taken fs (take1 r f)).l
    have e : ∀ s, laid (f :: fs) s = lay s f ++ laid fs s := fun s => by simp [laid]
    rw [e, List.append_assoc, ← i2, hl]
    exact j2
def fldLists : List (List Fld) := [flds 1, flds 2, flds 3, flds 4, flds 6, flds 7, flds 8, flds 9, flds 10, flds 11, flds 13, flds 14, flds 0]
theorem flds_P {P : List Fld → Prop} (k : Int) (h : ∀ l ∈ fldLists, P l) : P (flds k) := by
  by_cases h1 : k = 1
  · rw [h1]; exact h _ (by simp [fldLists])
  by_cases h2 : k = 2
  · rw [h2]; exact h _ (by simp [fldLists])
  by_cases h3 : k = 3
  · rw [h3]; exact h _ (by simp [fldLists])
  by_cases h4 : k = 4
  · rw [h4]; exact h _ (by simp [fldLists])
  by_cases h6 : k = 6
  · rw [h6]; exact h _ (by simp [fldLists])
  by_cases h7 : k = 7
  · rw [h7]; exact h _ (by simp [fldLists])
  by_cases h8 : k = 8
  · rw [h8]; exact h _ (by simp [fldLists])
  by_cases h9 : k = 9
  · rw [h9]; exact h _ (by simp [fldLists])
  by_cases h10 : k = 10
  · rw [h10]; exact h _ (by simp [fldLists])
  by_cases h11 : k = 11
  · rw [h11]; exact h _ (by simp [fldLists])
  by_cases h13 : k = 13
  · rw [h13]; exact h _ (by simp [fldLists])
  by_cases h14 : k = 14
  · rw [h14]; exact h _ (by simp [fldLists])
  have e : flds k = flds 0 := by
    unfold flds
    rw [if_neg h1, if_neg h2, if_neg h3, if_neg h4, if_neg h6, if_neg h7, if_neg h8, if_neg h9, if_neg h10, if_neg h11, if_neg h13, if_neg h14]
    rfl
  rw [e]
  exact h _ (by simp [fldLists])
theorem flds_a (k : Int) : (flds k).all okT1 = true := flds_P (P := fun l => l.all okT1 = true) k (by decide)
theorem flds_b (k : Int) : ((flds k).map tgt).Nodup := flds_P (P := fun l => (l.map tgt).Nodup) k (by decide)
theorem flds_ok1 (k : Int) : ((flds k).all okT1 = true) ∧ ((flds k).map tgt).Nodup := ⟨flds_a k, flds_b k⟩
theorem taken_kind : ∀ (fs : List Fld) (r : RdS), (taken fs r).s.kind = r.s.kind
  | [], _ => rfl
  | f :: fs, r => by
    show (taken fs (take1 r f)).s.kind = _
    rw [taken_kind fs, take1_kind]
theorem body_parse {b : List UInt8} (h : okB b = true) : Ms.right (parse b) = true ∧ body (parse b) = b ∧ (parse b).wf := by
  have hp : parse b = (final b).s := by unfold parse; rw [if_pos h]
  have hwf := final_wf b
  unfold okB at h
  rw [Bool.and_eq_true, Bool.and_eq_true] at h
  obtain ⟨⟨h1, h2⟩, h3⟩ := h
  have hbad : (final b).bad = false := by simpa using h1
  have hnil : (final b).l = [] := by simpa using h2
  refine ⟨by rw [hp]; exact h3, ?_, by rw [hp]; exact hwf⟩
  rw [hp]
  have hk : (final b).s.kind = (start b).s.kind := taken_kind _ _
  obtain ⟨i1, i2⟩ := taken_inv (flds (start b).s.kind) (start b) (fun f hf => List.all_eq_true.1 (flds_ok1 _).1 f hf) (flds_ok1 _).2 hbad
  have i1' : (Wr.numR b false 14).1.2 = false := i1
  obtain ⟨_, j2⟩ := numR_inv (by decide) i1'
  have i3 : (start b).l = laid (flds (start b).s.kind) (final b).s ++ (final b).l := i2
  rw [hnil, List.append_nil] at i3
  unfold body
  rw [hk, ← i3]
  exact j2.symm
end Ms
end Go.Proofs.YtcajhdmppfiaeaaGreat
namespace Go.Proofs.YtcajhdmppfiaeaaGreat
open Go.RowKit Ms
namespace Wr
theorem frame_lenG (t : List UInt8) : (frame t).length = (bytes (t.length + 4)).length + (t.length + 4) := by
  unfold frame
  rw [List.length_append, List.length_append]
  rfl
theorem first_cut (n m : Nat) (hn : n ≤ 4611686018427387904) (hm : m < (bytes n).length) : first ((bytes n).take m) = (0, 0) := by
  cases m with
  | zero => rfl
  | succ m =>
    have key : ∀ (c : UInt8) (k : Nat), many c = k → k ≠ 0 → bytes n = c :: be k n → first ((bytes n).take (m + 1)) = (0, 0) := fun c k hk h0 hb => by
      have hl : (bytes n).length = k + 1 := by rw [hb]; simp [be_len]
      rw [hb, List.take_succ_cons, first, hk, if_neg h0, if_pos (by rw [List.length_take, be_len]; omega)]
    by_cases h1 : n < 253
    · have hb : (bytes n).length = 1 := by rw [bytes_len, if_pos h1]
      omega
    · by_cases h2 : n < 65536
      · exact key 253 2 (by decide) (by decide) (by rw [bytes, if_neg h1, if_pos h2])
      · by_cases h3 : n < 4294967296
        · exact key 254 4 (by decide) (by decide) (by rw [bytes, if_neg h1, if_neg h2, if_pos h3])
        · exact key 255 8 (by decide) (by decide) (by rw [bytes, if_neg h1, if_neg h2, if_neg h3])
theorem split_cutG (t : List UInt8) (h : t.length ≤ 8192) (m : Nat) (hm : m < (frame t).length) : splitR ((frame t).take m) = ([], 0, 0) := by
  rw [frame_lenG] at hm
  by_cases hb : m < (bytes (t.length + 4)).length
  · have hf : (frame t).take m = (bytes (t.length + 4)).take m := by
      unfold frame
      rw [List.take_append_of_le_length (by omega)]
    unfold splitR
    rw [hf, first_cut _ _ (by omega) hb]
    simp
  · obtain ⟨j, rfl⟩ : ∃ j, m = (bytes (t.length + 4)).length + j := ⟨m - (bytes (t.length + 4)).length, by omega⟩
    have hf : (frame t).take ((bytes (t.length + 4)).length + j) = bytes (t.length + 4) ++ (t ++ low4 (Crc.sum t)).take j := by
      unfold frame
      rw [List.take_append, List.take_of_length_le (by omega), Nat.add_sub_cancel_left]
    have h1 := first_bytes (t.length + 4) ((t ++ low4 (Crc.sum t)).take j) (by omega)
    have hb0 : 0 < (bytes (t.length + 4)).length := by rw [bytes_len]; split <;> (try split) <;> (try split) <;> omega
    have hl : (bytes (t.length + 4) ++ (t ++ low4 (Crc.sum t)).take j).length = (bytes (t.length + 4)).length + j := by
      rw [List.length_append, List.length_take, List.length_append]
      have : (low4 (Crc.sum t)).length = 4 := rfl
      omega
    unfold splitR
    rw [hf, h1, hl]
    simp only
    rw [if_neg (by omega), if_neg (by omega), if_pos (by omega)]
theorem step_atG (ts : List (List UInt8)) (hM : ∀ t ∈ ts, t.length ≤ 8192) (m i : Nat) (h : i < ts.length) :
    splitR ((fr (ts.drop i)).take m) = if (frame ts[i]).length ≤ m then (ts[i], ((frame ts[i]).length : Int), 0) else ([], 0, 0) := by
  have hi := hM _ (List.getElem_mem h)
  rw [fr_drop ts i h]
  split
  · rename_i hle
    rw [List.take_append, List.take_of_length_le hle]
    exact split_frame _ _ (by omega)
  · rename_i hle
    rw [List.take_append_of_le_length (by omega)]
    exact split_cutG _ hi m (by omega)
theorem rest_atG (ts : List (List UInt8)) (hM : ∀ t ∈ ts, t.length ≤ 8192) (cut : Nat) : ∀ k, k ≤ ts.length → endOf ts k ≤ cut → rest k ((fr ts).take cut) = (fr (ts.drop k)).take (cut - endOf ts k)
  | 0, _, _ => by simp [rest, endOf, fr]
  | k + 1, h, hc => by
    have hk : k < ts.length := by omega
    have he := endOf_succ ts k hk
    have ih := rest_atG ts hM cut k (by omega) (by omega)
    rw [rest, ih, step_atG ts hM _ k hk, if_pos (by omega), fr_drop ts k hk]
    simp only [Int.toNat_natCast]
    rw [List.take_append, List.take_of_length_le (by omega), List.drop_left' rfl, he]
    congr 1
    omega
theorem goes_atG (ts : List (List UInt8)) (hM : ∀ t ∈ ts, t.length ≤ 8192) (cut k : Nat) (h : k ≤ ts.length) (hc : endOf ts k ≤ cut) :
    (goes k ((fr ts).take cut) = true → ∃ hk : k < ts.length, endOf ts (k + 1) ≤ cut ∧ body k ((fr ts).take cut) = ts[k] ∧ size k ((fr ts).take cut) = ((frame ts[k]).length : Int)) ∧
    (goes k ((fr ts).take cut) = false → k = ts.length ∨ (k < ts.length ∧ cut < endOf ts (k + 1))) := by
  have hr := rest_atG ts hM cut k h hc
  by_cases hk : k < ts.length
  · have hs := step_atG ts hM (cut - endOf ts k) k hk
    have he := endOf_succ ts k hk
    rw [← hr] at hs
    have hl := frame_lenG ts[k]
    unfold goes body size
    by_cases hle : (frame ts[k]).length ≤ cut - endOf ts k
    · rw [if_pos hle] at hs
      rw [hs]
      refine ⟨fun _ => ⟨hk, by omega, rfl, rfl⟩, fun h => ?_⟩
      exfalso
      have h0 : ((frame ts[k]).length : Int) ≠ 0 := by omega
      rw [show ((0 : Int) == 0) = true from rfl, beq_eq_false_iff_ne.2 h0] at h
      cases h
    · rw [if_neg hle] at hs
      rw [hs]
      exact ⟨fun h => by simp at h, fun _ => .inr ⟨hk, by omega⟩⟩
  · have hke : k = ts.length := by omega
    subst hke
    refine ⟨fun h => ?_, fun _ => .inl rfl⟩
    unfold goes at h
    rw [hr, List.drop_of_length_le (Nat.le_refl _)] at h
    simp [fr, splitR, first] at h
theorem upto_atG (ts : List (List UInt8)) (hM : ∀ t ∈ ts, t.length ≤ 8192) (cut : Nat) : ∀ k, k ≤ ts.length → endOf ts k ≤ cut → upto k ((fr ts).take cut) = (endOf ts k : Int)
  | 0, _, _ => by simp [upto, endOf, fr]
  | k + 1, h, hc => by
    have hk : k < ts.length := by omega
    have he := endOf_succ ts k hk
    have ih := upto_atG ts hM cut k (by omega) (by omega)
    have hr := rest_atG ts hM cut k (by omega) (by omega)
    rw [upto_succ, ih, he, size, hr, step_atG ts hM _ k hk, if_pos (by omega)]
    simp
end Wr
namespace Ms
def pay (t : Tell) : List UInt8 := t.ch ++ body t.s
def okTell (t : Tell) : Prop := t.wf ∧ right t.s = true
theorem pay_len {t : Tell} (h : okTell t) : (pay t).length ≤ 8192 ∧ 32 ≤ (pay t).length := by
  have := body_len h.1.2 h.2
  unfold pay
  rw [List.length_append, h.1.1]
  omega
theorem pay_told {t : Tell} (h : okTell t) : okT (pay t) = true ∧ toldOf (pay t) = t := by
  have hd : (pay t).drop 32 = body t.s := by unfold pay; exact List.drop_left' h.1.1
  have ht : (pay t).take 32 = t.ch := by unfold pay; exact List.take_left' h.1.1
  obtain ⟨b1, b2, _⟩ := body_ok h.1.2 h.2
  have hok : okT (pay t) = true := by
    unfold okT
    rw [hd, b1, decide_eq_true (pay_len h).2]
    rfl
  exact ⟨hok, by unfold toldOf; rw [if_pos hok, hd, ht, b2]⟩
def allOf (ts : List Tell) : List UInt8 := Wr.fr (ts.map pay)
def endT (ts : List Tell) (k : Nat) : Nat := Wr.endOf (ts.map pay) k
theorem allOf_snoc (ts : List Tell) (t : Tell) : allOf (ts ++ [t]) = allOf ts ++ rawOf t := by
  unfold allOf Wr.fr rawOf pay
  simp
theorem endT_all (ts : List Tell) (k : Nat) (h : ts.length ≤ k) : endT ts k = (allOf ts).length := by
  unfold endT Wr.endOf allOf
  rw [List.take_of_length_le (by simpa using h)]
theorem endT_snoc (ts : List Tell) (t : Tell) (k : Nat) (h : k ≤ ts.length) : endT (ts ++ [t]) k = endT ts k := by
  unfold endT Wr.endOf
  rw [List.map_append, List.take_append_of_le_length (by simpa using h)]
theorem tgo_at {ts : List Tell} (hok : ∀ t ∈ ts, okTell t) (cut k : Nat) (h : k ≤ ts.length) (hc : endT ts k ≤ cut) :
    (tgo k ((allOf ts).take cut) = true → ∃ hk : k < ts.length, endT ts (k + 1) ≤ cut ∧ tAt k ((allOf ts).take cut) = ⟨(endT ts (k + 1) : Int), ts[k]⟩) ∧
    (tgo k ((allOf ts).take cut) = false → k = ts.length ∨ (k < ts.length ∧ cut < endT ts (k + 1))) := by
  have hM : ∀ t ∈ ts.map pay, t.length ≤ 8192 := fun t ht => by
    obtain ⟨x, hx, rfl⟩ := List.mem_map.1 ht
    exact (pay_len (hok x hx)).1
  have hg := Wr.goes_atG (ts.map pay) hM cut k (by simpa using h) hc
  constructor
  · intro ht
    have h1 : Wr.goes k ((allOf ts).take cut) = true := by
      unfold tgo at ht
      rw [Bool.and_eq_true] at ht
      exact ht.1
    obtain ⟨hk, h2, h3, h4⟩ := hg.1 h1
    have hk' : k < ts.length := by simpa using hk
    refine ⟨hk', h2, ?_⟩
    unfold tAt
    have hu := Wr.upto_atG (ts.map pay) hM cut (k + 1) (by rw [List.length_map]; omega) h2
    have hb : Wr.body k ((allOf ts).take cut) = pay ts[k] := by
      have e : (ts.map pay)[k] = pay ts[k] := by simp
      rw [← e]
      exact h3
    rw [hb, (pay_told (hok _ (List.getElem_mem hk'))).2]
    have hu' : Wr.upto (k + 1) ((allOf ts).take cut) = (endT ts (k + 1) : Int) := hu
    rw [hu']
  · intro ht
    cases h1 : Wr.goes k ((allOf ts).take cut)
    · rcases hg.2 h1 with h2 | ⟨h2, h3⟩
      · exact .inl (by simpa using h2)
      · exact .inr ⟨by simpa using h2, h3⟩
    · exfalso
      obtain ⟨hk, h2, h3, h4⟩ := hg.1 h1
      have hk' : k < ts.length := by simpa using hk
      have hb : Wr.body k ((allOf ts).take cut) = pay ts[k] := by
        have e : (ts.map pay)[k] = pay ts[k] := by simp
        rw [← e]
        exact h3
      unfold tgo at ht
      rw [h1, hb, (pay_told (hok _ (List.getElem_mem hk'))).1] at ht
      cases ht
end Ms
end Go.Proofs.YtcajhdmppfiaeaaGreat
namespace Go.Proofs.YtcajhdmppfiaeaaGreat
open Go.RowKit Ms
theorem infoIntF : (Tryz.prog.info? 3).map (fun i => (i.zero, i.size, i.bytes)) = some (some (.int .i64 0), 1, 8) := by kernel_rfl
def OwnInts (w : World) (base : Nat) (v : Value) (zs : List Int) : Prop := w.ownsRow base 3 1 v zs.length (zs.map (Value.int .i64))
theorem OwnInts.nil (w : World) (base : Nat) : OwnInts w base (.slice none 0 0) [] := ⟨rfl, .inl ⟨rfl, rfl⟩⟩
theorem OwnInts.at_ {w : World} {base : Nat} {v : Value} {zs : List Int} (h : OwnInts w base v zs) : ∀ k, v.ownBlock = some k → base ≤ k ∧ k < w.heap.size := World.ownsRow.lt h
theorem OwnInts.keep {w w' : World} {base : Nat} {v : Value} {zs : List Int} (h : OwnInts w base v zs) (hk : ∀ b, b < w.heap.size → v.ownBlock = some b → w'.heap[b]? = w.heap[b]?) : OwnInts w' base v zs := by
  obtain ⟨h1, h2⟩ := h
  refine ⟨h1, ?_⟩
  rcases h2 with h2 | ⟨g, cap, cur, e, hb, hh, hr⟩
  · exact .inl h2
  · exact .inr ⟨g, cap, cur, e, hb, (hk g (Array.getElem?_eq_some_iff.1 hh).1 (by rw [e]; rfl)).trans hh, hr⟩
theorem OwnInts.later {w w' : World} {base : Nat} {v : Value} {zs : List Int} (h : OwnInts w base v zs) (hL : Later w w') : OwnInts w' base v zs := h.keep fun b hb _ => Below.block hL b hb
theorem OwnInts.slice {w : World} {base : Nat} {v : Value} {zs : List Int} (h : OwnInts w base v zs) : ∃ A c, v = .slice A zs.length c ∧ ∀ k (hk : k < zs.length), ∃ b, A = some ⟨b, 0, none⟩ ∧ w.cell? ⟨b, k, none⟩ = some (.int .i64 zs[k]) := by
  rcases h.2 with ⟨rfl, hn⟩ | ⟨g, cap, cur, rfl, hb, hh, hn, hc, hs, ht⟩
  · have : zs = [] := List.eq_nil_of_length_eq_zero hn
    subst this
    exact ⟨none, 0, rfl, fun k hk => absurd hk (by simp)⟩
  · refine ⟨_, cap, rfl, fun k hk => ⟨g, rfl, ?_⟩⟩
    have := World.ownsRow.cells h (g := g) rfl k (.int .i64 zs[k]) (by simp [hk])
    rwa [addr_add, Nat.zero_add] at this
theorem OwnInts.get {w : World} {base n c : Nat} {A : Option Addr} {zs : List Int} (h : OwnInts w base (.slice A n c) zs) (k : Nat) (hk : k < zs.length) : ∃ b, A = some ⟨b, 0, none⟩ ∧ base ≤ b ∧ b < w.heap.size ∧ w.cell? ⟨b, k, none⟩ = some (.int .i64 zs[k]) := by
  obtain ⟨A', c', e, hc⟩ := h.slice
  obtain ⟨b, e2, hcell⟩ := hc k hk
  injection e with e1
  subst e1
  subst e2
  exact ⟨b, rfl, (h.at_ b rfl).1, (h.at_ b rfl).2, hcell⟩
theorem wpList_append_int {w : World} {ops : Array Oper} {rest : List Oper} {o : Oper} {a : Act} {Q : Exit → Act → World → Prop} (hgd : o.guard = none) (s x : Operand)
    (ho : o.op = .call { callee := .builtin .append, args := #[s, x], argTypes := #[46, 46] })
    (base : Nat) (v : Value) (zs : List Int) (hs : a.eval s = v) (hown : OwnInts w base v zs) (b c : Nat) (z : Int) (hx : a.eval x = .slice (some ⟨b, 0, none⟩) 1 c) (hr : Row w b 3 #[.int .i64 z])
    (hl : zs.length ≤ 1000) (hbase : base ≤ w.heap.size)
    (h : ∀ v' w', OwnInts w' base v' (zs ++ [z]) → w.grownBy w' v.ownBlock → (v'.ownBlock = v.ownBlock ∨ v'.ownBlock = some w.heap.size) → wpList Tryz.prog ops Q rest (a.put o.dst v') w') : wpList Tryz.prog ops Q (o :: rest) a w := by
  obtain ⟨i, hi, he⟩ := Option.map_eq_some_iff.1 infoIntF
  injection he with hz he
  injection he with hsz hby
  refine wpList_append_own_at w hgd s x 46 ho base 3 i _ 1 8 Tryz.underlying46 hi hz hsz hby rfl (by decide) v zs.length _ hs hown ⟨b, 0, none⟩ 1 c [.int .i64 z] hx (by simp) (fun j u hj => ?_) ?_ (by unfold maxLen; omega) (by omega) hbase
    fun v' w' h1 h2 _ h4 => h v' w' (by unfold OwnInts; rw [List.length_append, List.map_append]; exact h1) h2 h4
  · match j, hj with
    | 0, hj =>
      simp at hj
      subst hj
      simpa [Addr.add] using (hr.cell 0).trans rfl
  · intro u hu
    simp at hu
    subst hu
    rfl
abbrev tlC (t : Tell) : List Value := (toldC t).toList
theorem tlC_len {t : Tell} (h : t.wf) : (tlC t).length = 334 := by rw [Array.length_toList, toldC_size h]
def OwnTl (w : World) (base : Nat) (v : Value) (ds : List Tell) : Prop := (∀ d ∈ ds, d.wf) ∧ w.ownsRow base 48 334 v ds.length ((ds.map tlC).flatten)
theorem OwnTl.nil (w : World) (base : Nat) : OwnTl w base (.slice none 0 0) [] := ⟨by simp, rfl, .inl ⟨rfl, rfl⟩⟩
theorem OwnTl.at_ {w : World} {base : Nat} {v : Value} {ds : List Tell} (h : OwnTl w base v ds) : ∀ k, v.ownBlock = some k → base ≤ k ∧ k < w.heap.size := World.ownsRow.lt h.2
theorem OwnTl.keep {w w' : World} {base : Nat} {v : Value} {ds : List Tell} (h : OwnTl w base v ds) (hk : ∀ b, b < w.heap.size → v.ownBlock = some b → w'.heap[b]? = w.heap[b]?) : OwnTl w' base v ds := by
  obtain ⟨h0, h1, h2⟩ := h
  refine ⟨h0, h1, ?_⟩
  rcases h2 with h2 | ⟨g, cap, cur, e, hb, hh, hr⟩
  · exact .inl h2
  · exact .inr ⟨g, cap, cur, e, hb, (hk g (Array.getElem?_eq_some_iff.1 hh).1 (by rw [e]; rfl)).trans hh, hr⟩
theorem OwnTl.later {w w' : World} {base : Nat} {v : Value} {ds : List Tell} (h : OwnTl w base v ds) (hL : Later w w') : OwnTl w' base v ds := h.keep fun b hb _ => Below.block hL b hb
theorem OwnTl.shape {w : World} {base : Nat} {v : Value} {ds : List Tell} (h : OwnTl w base v ds) : ∃ A c, v = .slice A ds.length c := by
  rcases h.2.2 with ⟨rfl, hn⟩ | ⟨g, cap, cur, rfl, hb, hh, hn, hc, hs, ht⟩
  · have : ds = [] := List.eq_nil_of_length_eq_zero hn
    subst this
    exact ⟨none, 0, rfl⟩
  · exact ⟨_, cap, rfl⟩
theorem OwnTl.type {w : World} {base : Nat} {v : Value} {ds : List Tell} (h : OwnTl w base v ds) {k : Nat} (hk : v.ownBlock = some k) : ∃ cs, Row w k 48 cs := by
  rcases h.2.2 with ⟨rfl, hn⟩ | ⟨g, cap, cur, rfl, hb, hh, hr⟩
  · cases hk
  · injection hk with hk
    subst hk
    exact ⟨cur, hh⟩
theorem OwnInts.type {w : World} {base : Nat} {v : Value} {zs : List Int} (h : OwnInts w base v zs) {k : Nat} (hk : v.ownBlock = some k) : ∃ cs, Row w k 3 cs := by
  rcases h.2 with ⟨rfl, hn⟩ | ⟨g, cap, cur, rfl, hb, hh, hr⟩
  · cases hk
  · injection hk with hk
    subst hk
    exact ⟨cur, hh⟩
theorem Own.type {U : TypeId} {w : World} {base : Nat} {v : Value} {l : List UInt8} (h : Own U w base v l) {k : Nat} (hk : v.ownBlock = some k) : ∃ cs, Row w k U cs := by
  rcases h.2 with ⟨rfl, hn⟩ | ⟨g, cap, cur, rfl, hb, hh, hr⟩
  · cases hk
  · injection hk with hk
    subst hk
    exact ⟨cur, hh⟩
theorem OwnTl.get {w : World} {base n c : Nat} {A : Option Addr} {ds : List Tell} (h : OwnTl w base (.slice A n c) ds) (k : Nat) (hk : k < ds.length) : ∃ b cs, A = some ⟨b, 0, none⟩ ∧ base ≤ b ∧ Row w b 48 cs ∧ ∀ i, i < 334 → cs[k * 334 + i]? = (toldC ds[k])[i]? := by
  rcases h.2.2 with ⟨e, hn⟩ | ⟨g, cap, cur, e, hb, hh, hn, hc, hs, ht⟩
  · omega
  · injection e with e1 e2 e3
    subst e1
    have hz : ∀ x ∈ ds, (tlC x).length = 334 := fun x hx => tlC_len (h.1 x hx)
    refine ⟨g, cur, rfl, hb, hh, fun j hj => ?_⟩
    have h1 := flat_at tlC 334 ds hz k hk j hj
    rw [← ht, List.getElem?_take_of_lt (by omega), Array.getElem?_toList, Array.getElem?_toList] at h1
    exact h1
theorem infoToldF : (Tryz.prog.info? 48).map (fun i => (i.zero, i.size, i.bytes)) = some (some (Value.agg (toldC noTold)), 334, 440) := by kernel_rfl
theorem op_append_tl {P : Program} {w : World} {o : Oper} {a : Act} {K : Act → World → Prop} {Q : Exit → Act → World → Prop} (hP : P = Tryz.prog) (s x : Operand)
    (ho : o.op = .call { callee := .builtin .append, args := #[s, x], argTypes := #[45, 45] })
    (base : Nat) (v : Value) (ds : List Tell) (hs : a.eval s = v) (hown : OwnTl w base v ds) (b c : Nat) (d : Tell) (hd : d.wf) (hx : a.eval x = .slice (some ⟨b, 0, none⟩) 1 c) (hr : Row w b 48 (toldC d))
    (hl : ds.length ≤ 1000000000) (hbase : base ≤ w.heap.size)
    (h : ∀ v' w', OwnTl w' base v' (ds ++ [d]) → w.grownBy w' v.ownBlock → (v'.ownBlock = v.ownBlock ∨ v'.ownBlock = some w.heap.size) → K (a.put o.dst v') w') : o.wp P a w K Q := by
  subst hP
  obtain ⟨i, hi, he⟩ := Option.map_eq_some_iff.1 infoToldF
  injection he with hz he
  injection he with hsz hby
  obtain ⟨v', w', hrun, h2, h3, h4, h5⟩ := run_append_own_at (P := Tryz.prog) w base 45 o.type 48 i _ 334 440 Tryz.underlying45 hi hz hsz hby (by show (toldC noTold).size = 334; exact toldC_size noTold_wf) (by decide) v ds.length ((ds.map tlC).flatten) hown.2 ⟨b, 0, none⟩ 1 c (tlC d) (by rw [tlC_len hd, Nat.one_mul]) (fun j u hj => by
    rw [addr_add, Nat.zero_add]
    refine (hr.cell j).trans ?_
    rw [← Array.getElem?_toList]
    exact hj) (fun u hu => Array.all_eq_true_iff_forall_mem.1 (toldC_one d) u (Array.mem_toList_iff.1 hu)) (by unfold maxLen; omega) (by omega) hbase
  have := h v' w' ⟨fun x hx => by rcases List.mem_append.1 hx with h | h; exact hown.1 x h; rw [List.mem_singleton.1 h]; exact hd, by rw [List.length_append, List.map_append, List.flatten_append]; simpa using h2⟩ h3 h5
  unfold Oper.wp execOp
  simp only [ho, resolve, invoke, builtin, Sem.run_bind, Sem.run_pure, Result.andThen_ok, List.map_toArray, List.map_cons, List.map_nil, hs, hx, hrun]
  exact this
def Tells (w : World) (A : Option Addr) (ts : List Tell) : Prop := ts ≠ [] → ∃ b o, A = some ⟨b, o, none⟩ ∧ ∀ i (h : i < ts.length), w.rangeAt b (o + i * 334) (tlC ts[i])
theorem Tells.later {w w' : World} {A : Option Addr} {ts : List Tell} (h : Tells w A ts) (hw : ∀ t ∈ ts, t.wf) (hL : Later w w') : Tells w' A ts := fun hne => by
  obtain ⟨b, o, e, hc⟩ := h hne
  refine ⟨b, o, e, fun i hi j v hj => ?_⟩
  exact hL.cell (hc i hi j v hj)
structure InTells (w : World) (A : Option Addr) (n c : Nat) (ts : List Tell) : Prop where
  len : ts.length = n
  cap : n ≤ c
  most : c ≤ maxLen
  wf : ∀ t ∈ ts, t.wf ∧ t.s.route.length ≤ 9223372036854775807
  rd : Tells w A ts
theorem loadToldM {w : World} {b o : Nat} {t : Tell} (h : t.wf) (hr : w.rangeAt b o (tlC t)) : (Instr.loadAt 48 (.pointer (some ⟨b, o, none⟩))).run Tryz.prog w = .ok (.agg (toldC t)) w := by
  have := run_loadAt_mid (P := Tryz.prog) w b o 48 (tlC t) _ hr Tryz.underlying48 rfl (by rw [tlC_len h]; exact infoTold)
  rwa [Array.toArray_toList] at this
theorem loadToldSM {w : World} {b o : Nat} {t : Tell} (h : t.wf) (hr : w.rangeAt b o (tlC t)) : (Instr.loadAt 29 (.pointer (some ⟨b, o + 32, none⟩))).run Tryz.prog w = .ok (.agg (saidC t.s)) w := by
  have hz := saidC_size h.2
  have := run_loadAt_mid (P := Tryz.prog) w b (o + 32) 29 (saidC t.s).toList _ (fun j v hj => by
    rw [Array.getElem?_toList] at hj
    rw [Nat.add_assoc]
    refine hr (32 + j) v ?_
    rw [Array.getElem?_toList, toldC_s h]
    exact hj) Tryz.underlying29 rfl (by rw [Array.length_toList, hz]; exact infoSaid)
  rwa [Array.toArray_toList] at this
theorem buildTl0 (f : Nat → Value) (w : World) : (Instr.buildSlice 45 1 #[(0, .agg ((List.range 334).map f).toArray)]).run Tryz.prog w = .ok (.slice (some ⟨w.heap.size, 0, none⟩) 1 1) (w.alloc (.cells ((List.range 334).map f).toArray 48)) := by kernel_rfl
theorem buildTl {t : Tell} (h : t.wf) (w : World) : (Instr.buildSlice 45 1 #[(0, .agg (toldC t))]).run Tryz.prog w = .ok (.slice (some ⟨w.heap.size, 0, none⟩) 1 1) (w.alloc (.cells (toldC t) 48)) := by
  rw [array_range (toldC t) 334 (toldC_size h)]
  exact buildTl0 _ w
theorem idxTl {b o n c i : Nat} (W : World) (h : i < n) : (Instr.indexAt 45 (.slice (some ⟨b, o, none⟩) n c) (.int .i64 (i : Int))).run Tryz.prog W = .ok (.pointer (some ⟨b, o + i * 334, none⟩)) W := by
  have h1 : (i : Int) < (n : Int) := by omega
  have h2 : (0 : Int) ≤ (i : Int) := by omega
  have h3 := infoTold
  go_simp
end Go.Proofs.YtcajhdmppfiaeaaGreat
namespace Go.Proofs.YtcajhdmppfiaeaaGreat
open Go.RowKit Ms
attribute [local go_sem] Oper.semAt_some
def Ms.endsL (sd : List Tell) : List Int := (List.range sd.length).map fun k => (endT sd (k + 1) : Int)
theorem leaveM1 {F : Fence} {n : Nat} {P : Program} {fn : Func} {R : Ending → World → Prop} {T : Array Value} {D : Nat} {w : World} {v : Value} (hD : w.heap[D]? = some (.deferred (some [])))
    (h : (results fn T).run P (w.putObj D (.deferred none)) = .ok v (w.putObj D (.deferred none))) (hR : R (.returned v) (w.putObj D (.deferred none))) :
    bodyPostM F n P fn R .ret { tmps := T, defers := [{ target := .collected D, args := #[] }] } w :=
  ⟨by simp, .inl ⟨_, _, rfl, run_takeDeferred hD, v, h, hR⟩⟩
theorem ne_types {w : World} {k q : Nat} {T U : TypeId} {cs cs' : Array Value} (h1 : Row w k T cs) (h2 : Row w q U cs') (hT : T ≠ U) : k ≠ q := fun e => by
  subst e
  exact hT (Row.type h1 h2)
structure BX (w : World) (q q12 q13 : Nat) (la : List UInt8) (zs : List Int) (ds : List Tell) (v11 va vb : Value) (W : World) : Prop where
  all : Own 5 W w.heap.size v11 la
  r12 : Row W q12 46 #[va]
  ends : OwnInts W w.heap.size va zs
  r13 : Row W q13 45 #[vb]
  tls : OwnTl W w.heap.size vb ds
  r6 : Row W q 4 #[.bool false]
  lat : Later w W
  sz : w.heap.size ≤ W.heap.size
theorem BX.later {w W W' : World} {q q12 q13 : Nat} {la : List UInt8} {zs : List Int} {ds : List Tell} {v11 va vb : Value} (h : BX w q q12 q13 la zs ds v11 va vb W) (hL : Later W W') : BX w q q12 q13 la zs ds v11 va vb W' :=
  ⟨h.all.later hL, h.r12.later hL, h.ends.later hL, h.r13.later hL, h.tls.later hL, h.r6.later hL, h.lat.step hL, Nat.le_trans h.sz hL.size⟩
theorem own_rows {W W' : World} {base : Nat} {v : Value} {l : List UInt8} (h : Own 5 W base v l) (hk : ∀ k cs, v.ownBlock = some k → Row W k 5 cs → Row W' k 5 cs) : Own 5 W' base v l :=
  h.keep fun b _ e => by
    obtain ⟨cs, h1⟩ := Own.type h e
    exact (hk b cs e h1).trans h1.symm
theorem ints_rows {W W' : World} {base : Nat} {v : Value} {l : List Int} (h : OwnInts W base v l) (hk : ∀ k cs, v.ownBlock = some k → Row W k 3 cs → Row W' k 3 cs) : OwnInts W' base v l :=
  h.keep fun b _ e => by
    obtain ⟨cs, h1⟩ := OwnInts.type h e
    exact (hk b cs e h1).trans h1.symm
theorem tls_rows {W W' : World} {base : Nat} {v : Value} {l : List Tell} (h : OwnTl W base v l) (hk : ∀ k cs, v.ownBlock = some k → Row W k 48 cs → Row W' k 48 cs) : OwnTl W' base v l :=
  h.keep fun b _ e => by
    obtain ⟨cs, h1⟩ := OwnTl.type h e
    exact (hk b cs e h1).trans h1.symm
theorem row_grown {W W' : World} {v : Value} {U : TypeId} (hg : W.grownBy W' v.ownBlock) (hU : ∀ {k}, v.ownBlock = some k → ∃ cs, Row W k U cs) {g : Nat} {T : TypeId} {cs : Array Value} (hr : Row W g T cs) (hT : U ≠ T) : Row W' g T cs :=
  hr.grown hg (fun e => by
    obtain ⟨cs', h1⟩ := hU e.symm
    exact ne_types h1 hr hT rfl)
theorem BX.grow_all {w W W' : World} {q q12 q13 : Nat} {la la' : List UInt8} {zs : List Int} {ds : List Tell} {v11 va vb v' : Value} (h : BX w q q12 q13 la zs ds v11 va vb W) (hg : W.grownBy W' v11.ownBlock) (ho : Own 5 W' w.heap.size v' la') : BX w q q12 q13 la' zs ds v' va vb W' := by
  have hT := fun {k} (e : v11.ownBlock = some k) => Own.type h.all e
  have hl : Later w W' := Below.grown h.lat hg h.sz (fun j e => (h.all.at_ j e).1)
  exact ⟨ho, row_grown hg hT h.r12 (by decide), ints_rows h.ends fun k cs _ hr => row_grown hg hT hr (by decide), row_grown hg hT h.r13 (by decide), tls_rows h.tls fun k cs _ hr => row_grown hg hT hr (by decide), row_grown hg hT h.r6 (by decide), hl, hl.size⟩
theorem BX.grow_ends {w W W' : World} {q q12 q13 : Nat} {la : List UInt8} {zs zs' : List Int} {ds : List Tell} {v11 va vb v' : Value} (h : BX w q q12 q13 la zs ds v11 va vb W) (hq : w.heap.size ≤ q12) (hg : W.grownBy W' va.ownBlock) (ho : OwnInts W' w.heap.size v' zs') : BX w q q12 q13 la zs' ds v11 v' vb (W'.setCell ⟨q12, 0, none⟩ v') := by
  have hT := fun {k} (e : va.ownBlock = some k) => OwnInts.type h.ends e
  have hl : Later w W' := Below.grown h.lat hg h.sz (fun j e => (h.ends.at_ j e).1)
  have h12 := row_grown hg hT h.r12 (by decide)
  have far : ∀ {g : Nat} {T : TypeId} {cs : Array Value}, Row W' g T cs → 46 ≠ T → Row (W'.setCell ⟨q12, 0, none⟩ v') g T cs := fun hr hne => hr.far (fun e => ne_types h12 hr hne e.symm) v'
  have hl2 : Later w (W'.setCell ⟨q12, 0, none⟩ v') := hl.setCell (p := ⟨q12, 0, none⟩) hq v'
  exact ⟨own_rows h.all fun k cs _ hr => far (row_grown hg hT hr (by decide)) (by decide), h12.set 0 v', ints_rows ho fun k cs _ hr => far hr (by decide), far (row_grown hg hT h.r13 (by decide)) (by decide), tls_rows h.tls fun k cs _ hr => far (row_grown hg hT hr (by decide)) (by decide), far (row_grown hg hT h.r6 (by decide)) (by decide), hl2, hl2.size⟩
theorem BX.grow_tls {w W W' : World} {q q12 q13 : Nat} {la : List UInt8} {zs : List Int} {ds ds' : List Tell} {v11 va vb v' : Value} (h : BX w q q12 q13 la zs ds v11 va vb W) (hq : w.heap.size ≤ q13) (hg : W.grownBy W' vb.ownBlock) (ho : OwnTl W' w.heap.size v' ds') : BX w q q12 q13 la zs ds' v11 va v' (W'.setCell ⟨q13, 0, none⟩ v') := by
  have hT := fun {k} (e : vb.ownBlock = some k) => OwnTl.type h.tls e
  have hl : Later w W' := Below.grown h.lat hg h.sz (fun j e => (h.tls.at_ j e).1)
  have h13 := row_grown hg hT h.r13 (by decide)
  have far : ∀ {g : Nat} {T : TypeId} {cs : Array Value}, Row W' g T cs → 45 ≠ T → Row (W'.setCell ⟨q13, 0, none⟩ v') g T cs := fun hr hne => hr.far (fun e => ne_types h13 hr hne e.symm) v'
  have hl2 : Later w (W'.setCell ⟨q13, 0, none⟩ v') := hl.setCell (p := ⟨q13, 0, none⟩) hq v'
  exact ⟨own_rows h.all fun k cs _ hr => far (row_grown hg hT hr (by decide)) (by decide), far (row_grown hg hT h.r12 (by decide)) (by decide), ints_rows h.ends fun k cs _ hr => far (row_grown hg hT hr (by decide)) (by decide), h13.set 0 v', tls_rows ho fun k cs _ hr => far hr (by decide), far (row_grown hg hT h.r6 (by decide)) (by decide), hl2, hl2.size⟩
theorem grown_later {w w' W : World} {row : Option Nat} (h : w.grownBy w' row) (hL : Later w' W) : w.grownBy W row :=
  h.trans ⟨hL.os, hL.tape, hL.output, hL.size, fun i hi _ => Below.block hL i hi⟩
def RTl (w : World) (q q12 q13 : Nat) (la : List UInt8) (zs : List Int) (ds : List Tell) (t : Tell) (v11 va vb : Value) : List Value → World → Prop
  | [], W => BX w q q12 q13 la zs ds v11 va vb W
  | [x], W => BX w q q12 q13 la zs ds v11 va vb W ∧ ∃ g, x = .slice (some ⟨g, 0, none⟩) 1 1 ∧ Row W g 48 (toldC t)
  | [_, v'], W => ∃ W0, BX w q q12 q13 la zs ds v11 va vb W0 ∧ W0.grownBy W vb.ownBlock ∧ OwnTl W w.heap.size v' (ds ++ [t])
  | _, _ => False
theorem RTl.later {w : World} {q q12 q13 : Nat} {la : List UInt8} {zs : List Int} {ds : List Tell} {t : Tell} {v11 va vb : Value} : ∀ rs W W', Later W W' → RTl w q q12 q13 la zs ds t v11 va vb rs W → RTl w q q12 q13 la zs ds t v11 va vb rs W'
  | [], _, _, hL, h => BX.later h hL
  | [_], _, _, hL, ⟨h, g, e, hr⟩ => ⟨h.later hL, g, e, hr.later hL⟩
  | [_, _], _, _, hL, ⟨W0, h, hg, ho⟩ => ⟨W0, h, grown_later hg hL, ho.later hL⟩
  | _ :: _ :: _ :: _, _, _, _, h => h.elim
theorem RTl.base {w : World} {q q12 q13 : Nat} {la : List UInt8} {zs : List Int} {ds : List Tell} {t : Tell} {v11 va vb : Value} : ∀ {rs W}, RTl w q q12 q13 la zs ds t v11 va vb rs W → Later w W ∧ Row W q13 45 #[vb]
  | [], _, h => ⟨BX.lat h, BX.r13 h⟩
  | [_], _, ⟨h, _⟩ => ⟨h.lat, h.r13⟩
  | [_, _], _, ⟨_, h, hg, _⟩ => ⟨Below.grown h.lat hg h.sz (fun j e => (h.tls.at_ j e).1), row_grown hg (fun {k} e => OwnTl.type h.tls e) h.r13 (by decide)⟩
  | _ :: _ :: _ :: _, _, h => h.elim
theorem loadTlV {b o : Nat} {v : Value} {W : World} (hc : W.cell? ⟨b, o, none⟩ = some v) : (Instr.loadAt 45 (.pointer (some ⟨b, o, none⟩))).run Tryz.prog W = .ok v W := by
  go_simp
theorem storeTlV {b m c : Nat} {S : Option Addr} {v u : Value} {W : World} (e : v = .slice S m c) (hc : W.cell? ⟨b, 0, none⟩ = some u) (hf : W.frozen? ⟨b, 0, none⟩ = false) : (Instr.storeAt 45 (.pointer (some ⟨b, 0, none⟩)) v).run Tryz.prog W = .ok () (W.setCell ⟨b, 0, none⟩ v) := by
  subst e
  go_simp
theorem op_buildSliceK {P : Program} {Q : Exit → Act → World → Prop} {K : Act → World → Prop} {o : Oper} {a : Act} {W : World} {t : TypeId} {n : Nat} {parts : Array (Nat × Operand)} {vs : Array (Nat × Value)} {v : Value} {W' : World} (ho : o.op = .buildSlice t n parts) (hp : (parts.map fun (i, x) => (i, a.eval x)) = vs)
    (hr : (Instr.buildSlice t n vs).run P W = .ok v W') (h : K (a.put o.dst v) W') : o.wp P a W K Q := by
  unfold Oper.wp execOp
  simp only [ho, hp, hr, Sem.run_bind, Sem.run_pure, Result.andThen_ok, Oper.upon]
  exact h
theorem loadIntsV {b o : Nat} {v : Value} {W : World} (hc : W.cell? ⟨b, o, none⟩ = some v) : (Instr.loadAt 46 (.pointer (some ⟨b, o, none⟩))).run Tryz.prog W = .ok v W := by
  go_simp
theorem idxIntV {b n c i : Nat} (W : World) (h : i < n) : (Instr.indexAt 46 (.slice (some ⟨b, 0, none⟩) n c) (.int .i64 (i : Int))).run Tryz.prog W = .ok (.pointer (some ⟨b, i, none⟩)) W := by
  have h1 : (i : Int) < (n : Int) := by omega
  have h2 : (0 : Int) ≤ (i : Int) := by omega
  go_simp
theorem leaveX1 {q D : Nat} {w X W : World} (hK : X.heap[D]? = some (.deferred (some []))) (hb : Below w.heap.size w X) (k6 : Row W q 4 #[.bool false]) (hL : Later X W) (hqD : q < D) (hq : w.heap.size ≤ q) :
    (W.setCell ⟨q, 0, none⟩ (.bool true)).heap[D]? = some (.deferred (some [])) ∧ ((W.setCell ⟨q, 0, none⟩ (.bool true)).putObj D (.deferred none)).cell? ⟨q, 0, none⟩ = some (.bool true) ∧ Below w.heap.size w ((W.setCell ⟨q, 0, none⟩ (.bool true)).putObj D (.deferred none)) := by
  have hs := hb.size
  have hs2 := hL.size
  have hB : Below w.heap.size w (W.setCell ⟨q, 0, none⟩ (.bool true)) := (hb.trans (hL.mono hs)).setCell (p := ⟨q, 0, none⟩) hq _
  refine ⟨(Below.heap_setCell W ⟨q, 0, none⟩ _ D (by show D ≠ q; omega)).trans ((Below.block hL D (Array.getElem?_eq_some_iff.1 hK).1).trans hK), ?_, hB.trans (below_put w.heap.size (W.setCell ⟨q, 0, none⟩ (.bool true)) D (.deferred none) (by omega) hB.size)⟩
  exact (World.cell?_of_block (w := W.setCell ⟨q, 0, none⟩ (.bool true)) (a := ⟨q, 0, none⟩) (World.putObj_heap_other (by show q ≠ D; omega))).trans (((k6.set 0 (.bool true)).cell 0).trans rfl)
structure BL (w w1 : World) (q q12 q13 i : Nat) (sd : List Tell) (v11 va vb : Value) (wr : World) : Prop extends BX w q q12 q13 (allOf sd) (endsL sd) sd v11 va vb wr where
  ok : ∀ t ∈ sd, okTell t
  le : sd.length ≤ i
theorem BL.later {w w1 wr W : World} {q q12 q13 i : Nat} {sd : List Tell} {v11 va vb : Value} (h : BL w w1 q q12 q13 i sd v11 va vb wr) (hL : Later wr W) : BL w w1 q q12 q13 i sd v11 va vb W :=
  ⟨h.toBX.later hL, h.ok, h.le⟩
theorem endsL_snoc (sd : List Tell) (t : Tell) : endsL (sd ++ [t]) = endsL sd ++ [((allOf (sd ++ [t])).length : Int)] := by
  unfold endsL
  rw [List.length_append, List.length_singleton, List.range_succ, List.map_append, List.map_singleton]
  congr 1
  · apply List.map_congr_left
    intro k hk
    rw [endT_snoc sd t (k + 1) (by have := List.mem_range.1 hk; omega)]
  · rw [endT_all _ _ (by simp)]
theorem rawOf_len {t : Tell} (h : okTell t) : (rawOf t).length ≤ 6000 := by
  have h1 := Wr.frame_lenG (t.ch ++ body t.s)
  have h2 := Wr.bytes_le ((t.ch ++ body t.s).length + 4)
  have h3 := body_len h.1.2 h.2
  have h4 : (t.ch ++ body t.s).length = 32 + (body t.s).length := by rw [List.length_append, h.1.1]
  unfold rawOf
  omega
theorem allOf_len : ∀ (sd : List Tell), (∀ t ∈ sd, okTell t) → (allOf sd).length ≤ 6000 * sd.length
  | [], _ => by simp [allOf, Wr.fr]
  | t :: sd, h => by
    have h1 := allOf_len sd (fun x hx => h x (List.mem_cons_of_mem _ hx))
    have h2 := rawOf_len (h t List.mem_cons_self)
    have e : allOf (t :: sd) = rawOf t ++ allOf sd := by simp [allOf, Wr.fr, rawOf, pay]
    rw [e, List.length_append, List.length_cons]
    omega
theorem eqgSaid (b : BinOp) (x y : Operand) (xs ys : Array Value) (w : World) : (eqGuard b 29 x y (.agg xs) (.agg ys)).run Tryz.prog w = .ok () w := run_eqGuard_agg w b _ x y xs ys (by kernel_rfl)
theorem neqSaidMe {s : Said} (h : s.wf) (W : World) : (binOp .neq 29 (.agg (saidC s)) (.agg (saidC s))).run Tryz.prog W = .ok (.bool false) W := by
  rw [neqSaid h h, decide_eq_true rfl]
  rfl
set_option maxRecDepth 100000 in
set_option maxHeartbeats 32000000 in
theorem msgsBack_main (A : Option Addr) (n c : Nat) (ts : List Tell) (A2 : Option Addr) (n2 c2 : Nat) (b : List UInt8) (cut : Int) (w : World) (hn : ts.length = n) (hn8 : n ≤ 8) (hwf : ∀ t ∈ ts, t.wf ∧ t.s.route.length ≤ 9223372036854775807) (hrT : Tells w A ts) (hn2 : b.length = n2) (hm2 : n2 ≤ 1000) (hc2 : n2 ≤ c2) (hcm2 : c2 ≤ 9223372036854775807) (hr2 : Rd w A2 b) (hcut : -9223372036854775808 ≤ cut ∧ cut ≤ 9223372036854775807) :
    Calls Tryz.prog 6 #[.slice A n c, .slice A2 n2 c2, .int .i64 cut] w fun e w' => e = .returned (.bool true) ∧ Below w.heap.size w w' := by
  refine Calls.post fun Φ HΦ => ?_
  have k6 := Row.new w 4 #[.bool false]
  have hL1 := (Later.refl w).alloc (.cells #[.bool false] 4)
  have HN := Lib.hid hn
  have HN2 := Lib.hid hn2
  have HWF := Lib.hid hwf
  clear hn hn2 hwf
  refine (callsIn_wide (n := 12)).1 ?_
  refine callsIn_of_wp_marks Tryz.func6 rfl trivial ?_ rfl
  simp only [Tryz.ntmps6, List.size_toArray, List.length_cons, List.length_nil, Nat.reduceAdd, Nat.reduceSub, Array.replicate_succ, Array.replicate_zero, List.push_toArray, List.append_toArray, List.nil_append, List.cons_append]
  refine wpIn_wide.2 ?_
  have d1 : decide ((8 : Int) < (n : Int)) = false := decide_eq_false (by omega)
  have d1' : decide (8 < n) = false := decide_eq_false (by omega)
  have d2 : decide ((1000 : Int) < (n2 : Int)) = false := decide_eq_false (by omega)
  have d2' : decide (1000 < n2) = false := decide_eq_false (by omega)
  go_upto_region 3 with fail
  obtain ⟨q, hq⟩ : ∃ q, q = w.heap.size := ⟨_, rfl⟩
  rw [← hq] at k6 ⊢
  have HQ := Lib.hid hq
  clear hq d1 d1' d2 d2'
  generalize w.alloc (.cells #[.bool false] 4) = w1 at *
  have hq1 := k6.lt
  have hp := mparse_any A2 n2 c2 b w1 HN2.out (by omega) (hr2.later hL1)
  obtain ⟨P, hP⟩ : ∃ P, Ms.parse b = P := ⟨_, rfl⟩
  have hPw : P.wf := hP ▸ parse_wf b
  obtain ⟨ok, hok⟩ : ∃ x, okB b = x := ⟨_, rfl⟩
  have hPE : Ms.parseE b = if ok = true then 0 else 210 := by unfold Ms.parseE; rw [hok]
  rw [hP, hPE] at hp
  have hbk : ok = true → ∀ W, Calls Tryz.prog 10 #[.agg (saidC P)] W fun e w' => ∃ v, e = .returned (.tuple #[v, .int .i64 0]) ∧ Own 5 w' W.heap.size v b ∧ Later W w' := fun h W => by
    obtain ⟨h1, h2, h3⟩ := body_parse (b := b) (by rw [hok]; exact h)
    rw [hP] at h1 h2
    have h512 := right_route h1
    have := mbody_any P hPw (by omega) W
    have e1 : bodyR P = b := by unfold bodyR; rw [if_pos h1, h2]
    have e2 : bodyE P = 0 := by unfold bodyE; rw [if_pos h1]
    rw [e1, e2] at this
    exact this
  have HBK := Lib.hid hbk
  have HPP := Lib.hid hp
  clear hp hbk hPE hP hok
  go_upto_region 4 with (first
    | (go_at_call 15; refine HPP.out.mono ?_; rintro e w2 ⟨rfl, hL2⟩; obtain ⟨w3, hst, k7, hL3⟩ := newSaid w2 hPw)
    | (with_reducible refine wpList_alloc rfl 29 rfl (allocSaid _) ?_)
    | (guard_target =~ wpList _ _ _ (_ :: _) _ _; refine wpList_store rfl 29 (.tmp 7) (.tmp 36) rfl (.pointer (some ⟨w2.heap.size, 0, none⟩)) (.agg (saidC P)) rfl rfl hst ?_)
    | fail)
  obtain ⟨q7, hq7⟩ : ∃ q, q = w2.heap.size := ⟨_, rfl⟩
  rw [← hq7] at k7 ⊢
  have hL13 : Later w1 w3 := Later.step hL2 hL3
  clear hst hq7 hL2 hL3 HPP
  refine name_frame fun T0 hT0 => ?_
  rename_i Kr hKr Kc hKc
  have hrest : ∀ (u9 u10 u38 u39 u40 u41 u42 u43 u44 u45 u46 u47 u48 u49 u50 u51 u52 u53 u54 u55 : Value) (X : World), Later w3 X → Kr { tmps := ((((((((((((((((((((T0).setIfInBounds 9 u9).setIfInBounds 10 u10).setIfInBounds 38 u38).setIfInBounds 39 u39).setIfInBounds 40 u40).setIfInBounds 41 u41).setIfInBounds 42 u42).setIfInBounds 43 u43).setIfInBounds 44 u44).setIfInBounds 45 u45).setIfInBounds 46 u46).setIfInBounds 47 u47).setIfInBounds 48 u48).setIfInBounds 49 u49).setIfInBounds 50 u50).setIfInBounds 51 u51).setIfInBounds 52 u52).setIfInBounds 53 u53).setIfInBounds 54 u54).setIfInBounds 55 u55, defers := [] } X := by
    intro u9 u10 u38 u39 u40 u41 u42 u43 u44 u45 u46 u47 u48 u49 u50 u51 u52 u53 u54 u55 X hLX
    refine hKr _ _ ?_
    rw [hT0]
    simp only [List.setIfInBounds_toArray, List.set_cons_succ, List.set_cons_zero]
    clear hT0 hKr hKc
    generalize (if ok = true then (0 : Int) else 210) = E8
    have hL1X := hL13.step hLX
    have k6X := k6.later hL1X
    clear HBK k7 hLX hL13 hPw hr2
    go_upto_region 11 with fail
    have k12 := (Row.new X 46 #[.slice none 0 0]).alloc (.cells #[.slice none 0 0] 45)
    have k13 := Row.new (X.alloc (.cells #[.slice none 0 0] 46)) 45 #[.slice none 0 0]
    have hL12 : Later X ((X.alloc (.cells #[.slice none 0 0] 46)).alloc (.cells #[.slice none 0 0] 45)) := ((Later.refl X).alloc _).alloc _
    have hsX := hL1X.size
    simp only [World.size_alloc] at k13
    have hb0 : BL w w1 q X.heap.size (X.heap.size + 1) 0 [] (.slice none 0 0) (.slice none 0 0) (.slice none 0 0) ((X.alloc (.cells #[.slice none 0 0] 46)).alloc (.cells #[.slice none 0 0] 45)) :=
      ⟨⟨Own.nil _ _ _, k12, OwnInts.nil _ _, k13, OwnTl.nil _ _, k6X.later hL12, (hL1.step hL1X).step hL12, by have := hL1.size; have := hL12.size; omega⟩, by simp, Nat.le_refl _⟩
    obtain ⟨q12, hq12⟩ : ∃ q, q = X.heap.size := ⟨_, rfl⟩
    rw [← hq12] at hb0 ⊢
    have hqX : q < q12 ∧ w.heap.size ≤ q12 := by have := hL1.size; exact ⟨by omega, by omega⟩
    obtain ⟨q13, hq13⟩ : ∃ q, q = q12 + 1 := ⟨_, rfl⟩
    rw [← hq13] at hb0 ⊢
    have hq123 : q12 < q13 := by omega
    clear k12 k13 hL12 hsX hL1X k6X hq12 hq13 k6
    generalize (X.alloc (.cells #[.slice none 0 0] 46)).alloc (.cells #[.slice none 0 0] 45) = w10 at *
    go_wp2_with fail
    go_loopw [11, 14] (fun v11 v14 wr => ∃ (i : Nat) (sd : List Tell) (va vb : Value), i ≤ n ∧ v14 = .int .i64 (i : Int) ∧ BL w w1 q q12 q13 i sd v11 va vb wr) (fun _ v14 _ => n - (intOf v14).toNat)
    case atStart => exact ⟨0, [], _, _, Nat.zero_le _, rfl, hb0⟩
    case round =>
      clear hb0
      obtain ⟨i, sd, va, vb, hi, rfl, hB⟩ := hrel
      by_cases hlt : i < n
      · have hd : decide ((i : Int) < (n : Int)) = true := decide_eq_true (by omega)
        have hd' : decide (i < n) = true := decide_eq_true hlt
        have hil : i < ts.length := by rw [HN.out]; exact hlt
        have hrT0 := hrT
        obtain ⟨bA, oA, rfl, hcs⟩ := (hrT.later (fun t ht => (HWF.out t ht).1) hB.lat) (by intro e; subst e; simp at hil)
        have hci := hcs i hil
        obtain ⟨htw, htm⟩ := HWF.out _ (List.getElem_mem hil)
        obtain ⟨t, ht⟩ : ∃ t, ts[i] = t := ⟨_, rfl⟩
        rw [ht] at hci htw htm
        obtain ⟨bA', oA', eA, hcs0⟩ := hrT0 (by intro e; subst e; simp at hil)
        cases eA
        have hci0 := hcs0 i hil
        rw [ht] at hci0
        have hcw : ∀ W, Later w W → W.rangeAt bA (oA + i * 334) (tlC t) := fun W hL j v hj => hL.cell (hci0 j v hj)
        have hci' : ∀ W, Later wr W → W.rangeAt bA (oA + i * 334) (tlC t) := fun W hL j v hj => hL.cell (hci j v hj)
        have HCI := Lib.hid hci'
        have HCW := Lib.hid (fun W (h : Later w W) v j hj => (hcw W h) v j hj)
        have HIX := Lib.hid (fun W => idxTl (b := bA) (o := oA) (c := c) W hlt)
        have HFW := Lib.hid (fun W => few_any t.s htw.2 htm W)
        have HRAW := Lib.hid (fun W => mraw_any t htw htm W)
        have HBODY := Lib.hid (fun W => mbody_any t.s htw.2 htm W)
        have HTW := Lib.hid htw
        have hF1 := fun W => fieldTold1 (g := bA) (o := oA + i * 334) (W := W)
        clear hcs hci hci' htw htm ht hcw hci0 hcs0 hrT0
        have hix0 := HIX.out wr
        have hldS := loadToldSM HTW.out (HCI.out wr (Later.refl _))
        cases hfw : decide (t.s.route.length ≤ 600)
        · rw [hfw] at HFW
          have HB := Lib.hid hB
          clear hB
          go_wp2_with (first
            | (guard_target =~ wpList _ _ _ (_ :: _) _ _; refine wpList_load rfl 29 (.tmp 65) rfl (.pointer (some ⟨bA, oA + i * 334 + 32, none⟩)) rfl hldS ?_)
            | (go_at_call 8; refine (HFW.out _).mono ?_; rintro e w20 ⟨rfl, hL20⟩)
            | (go_at_call 9; refine (works_yes _).mono ?_; rintro e w21 ⟨rfl, hL21⟩; have k621 := (HB.out.later (Later.step hL20 hL21)).r6; have c621 : w21.cell? ⟨q, 0, none⟩ = some (.bool false) := (k621.cell 0).trans rfl; have f621 : w21.frozen? ⟨q, 0, none⟩ = false := k621.frozen 0)
            | fail)
          have hcv : (w21.setCell ⟨q, 0, none⟩ (.bool true)).cell? ⟨q, 0, none⟩ = some (.bool true) := ((k621.set 0 (.bool true)).cell 0).trans rfl
          exact retM (v := .bool true) (by simp [results, Tryz.results6, go_sem, hcv]) (HΦ.out _ _ ⟨rfl, (HB.out.lat.step (Later.step hL20 hL21)).setCell (p := ⟨q, 0, none⟩) (by have := HQ.out; show w.heap.size ≤ q; omega) _⟩)
        · rw [hfw] at HFW
          have hlen := hB.le
          have HB := Lib.hid hB
          clear hB
          go_upto_region 16 with (first
            | (guard_target =~ wpList _ _ _ (_ :: _) _ _; refine wpList_load rfl 29 (.tmp 65) rfl (.pointer (some ⟨bA, oA + i * 334 + 32, none⟩)) rfl hldS ?_)
            | (go_at_call 8; refine (HFW.out _).mono ?_; rintro e w20 ⟨rfl, hL20⟩)
            | fail)
          have hldT := loadToldM HTW.out (HCI.out w20 hL20)
          have hix1 := HIX.out w20
          clear hldS hix0
          obtain ⟨rb, hrb⟩ : ∃ b, Ms.right t.s = b := ⟨_, rfl⟩
          have hraw := HRAW.out
          unfold rawR bodyE at hraw
          rw [hrb] at hraw
          have HRW := Lib.hid hraw
          clear hraw HRAW
          cases rb
          · have hraw := HRW.out
            simp only [Bool.false_eq_true, if_false] at hraw
            have HRW2 := Lib.hid hraw
            clear hraw HRW
            go_wp2_with (first
              | (guard_target =~ wpList _ _ _ (_ :: _) _ _; refine wpList_load rfl 48 (.tmp 73) rfl (.pointer (some ⟨bA, oA + i * 334, none⟩)) rfl hldT ?_)
              | (go_at_call 17; refine (HRW2.out _).mono ?_; rintro e w21 ⟨v15, rfl, hown15, hL21⟩)
              | (go_at_call 12; refine (num_n 2 _ (by decide)).mono ?_; rintro e w22 ⟨rfl, rfl⟩)
              | fail)
            go_roundw
            case rel =>
              have hB2 := HB.out.later (Later.step hL20 hL21)
              exact ⟨i + 1, sd, va, vb, by omega, by go_num, ⟨hB2.toBX, hB2.ok, by omega⟩⟩
            case measure => simp [intOf]; omega
          · have hraw := HRW.out
            simp only [if_true] at hraw
            have HRW2 := Lib.hid hraw
            clear hraw HRW
            have hokT : okTell t := ⟨HTW.out, hrb⟩
            obtain ⟨b1, b2, b3⟩ := body_ok HTW.out.2 hrb
            have hbl := body_len HTW.out.2 hrb
            have hbody := HBODY.out
            unfold bodyR bodyE at hbody
            rw [hrb] at hbody
            simp only [if_true] at hbody
            obtain ⟨B, hBe⟩ : ∃ B, body t.s = B := ⟨_, rfl⟩
            rw [hBe] at hbody b2 b3 hbl
            have HBD := Lib.hid hbody
            have HOKT := Lib.hid hokT
            clear hbody HBODY b1 hokT hrb hBe
            go_upto_region 17 with (first
              | (guard_target =~ wpList _ _ _ (_ :: _) _ _; refine wpList_load rfl 48 (.tmp 73) rfl (.pointer (some ⟨bA, oA + i * 334, none⟩)) rfl hldT ?_)
              | (go_at_call 17; refine (HRW2.out _).mono ?_; rintro e w21 ⟨v15, rfl, hown15, hL21⟩; obtain ⟨A15, c15, rfl, hc15, hcm15, hrd15⟩ := hown15.slice)
              | fail)
            have hL21' : Later wr w21 := Later.step hL20 hL21
            have hix2 := HIX.out w21
            have hldS := loadToldSM HTW.out (HCI.out w21 hL21')
            obtain ⟨R, hR⟩ : ∃ R, rawOf t = R := ⟨_, rfl⟩
            rw [hR] at hc15 hrd15 ⊢
            obtain ⟨N15, hN15⟩ : ∃ N, R.length = N := ⟨_, rfl⟩
            rw [hN15] at hc15 ⊢
            have HR := Lib.hid hR
            have HN15 := Lib.hid hN15
            clear hldT hix1 HRW2 hL21 hown15 hR hN15
            go_upto_region 19 with (first
              | (go_at_call 12; refine (num_n 0 _ (by decide)).mono ?_; rintro e w22 ⟨rfl, rfl⟩)
              | (guard_target =~ wpList _ _ _ (_ :: _) _ _; refine wpList_load rfl 29 (.tmp 85) rfl (.pointer (some ⟨bA, oA + i * 334 + 32, none⟩)) rfl hldS ?_)
              | (go_at_call 10; refine (HBD.out _).mono ?_; rintro e w23 ⟨v17, rfl, hown17, hL23⟩; obtain ⟨A17, c17, rfl, hc17, hcm17, hrd17⟩ := hown17.slice)
              | fail)
            have hp := mparse_any A17 B.length c17 B w23 rfl (by omega) hrd17
            rw [b2, b3] at hp
            have HP := Lib.hid hp
            have hL23' : Later wr w23 := Later.step hL21' hL23
            have hrd23 := hrd15.later hL23
            clear hp b2 b3 hrd17 hown17 hldS hix2 hL21' hrd15 hL23 HBD
            go_upto_region 20 with (first
              | (go_at_call 15; refine HP.out.mono ?_; rintro e w24 ⟨rfl, hL24⟩; obtain ⟨w25, hst, k19, hL25⟩ := newSaid w24 HTW.out.2)
              | (with_reducible refine wpList_alloc rfl 29 rfl (allocSaid _) ?_)
              | (guard_target =~ wpList _ _ _ (_ :: _) _ _; refine wpList_store rfl 29 (.tmp 19) (.tmp 93) rfl (.pointer (some ⟨w24.heap.size, 0, none⟩)) (.agg (saidC t.s)) rfl rfl hst ?_)
              | fail)
            obtain ⟨q19, hq19⟩ : ∃ q, q = w24.heap.size := ⟨_, rfl⟩
            rw [← hq19] at k19 ⊢
            have hL2325 : Later w23 w25 := Later.step hL24 hL25
            have hL25' : Later wr w25 := hL23'.step hL2325
            have hrd25 := hrd23.later hL2325
            clear hst hq19 hL24 hL25 hL2325 hL23' hrd23 HP
            refine (wpIn_wide (n := 0)).1 ?_
            refine wpIn_region_vals wide_wide [Pr.eq (.int .i64 0), Pr.eq (.int .i64 0), Pr.eq (.int .i64 0), Pr.eq (.int .i64 0), Pr.eq (.int .i64 0), Pr.eq (.bool false), Pr.eq (.bool false), Pr.eq (.agg (saidC t.s)), Pr.eq (.slice (some ⟨bA, oA, none⟩) n c), Pr.eq (.int .i64 (i : Int)), Pr.eq (.pointer (some ⟨bA, oA + i * 334, none⟩)), Pr.eq (.pointer (some ⟨bA, oA + i * 334 + 32, none⟩)), Pr.eq (.agg (saidC t.s)), Pr.eq (.bool false), Pr.eq (.bool false)] (by kernel_rfl) (by kernel_rfl) (by kernel_rfl) (by kernel_rfl) (by kernel_rfl) ⟨?_, ?_, ?_, ?_, ?_, ?_, ?_, ?_, ?_, ?_, ?_, ?_, ?_, ?_, ?_, trivial⟩ ?_
            · exact fun ac W hL he => stepOk_want rfl (op_move rfl (he.keep (.tmp 18) (by kernel_rfl)))
            · intro ac W hL he; refine stepOk_want rfl ?_; have e0 : ac.eval (.tmp 95) = .int .i64 0 := (he.get 0 95 (by kernel_rfl) rfl); exact op_callF (vs := #[.int .i64 0]) rfl (by simp only [List.map_toArray, List.map_cons, List.map_nil, e0]) (enters_of Tryz.func12 (by kernel_rfl) rfl) (((num_n 0 W (by decide))).mono fun e W' ⟨he', hw'⟩ => ⟨_, he', hw' ▸ Later.refl _, rfl⟩)
            · exact fun ac W hL he => stepOk_want rfl (op_move rfl (he.keep (.tmp 20) (by kernel_rfl)))
            · intro ac W hL he; refine stepOk_want rfl ?_; have e0 : ac.eval (.tmp 97) = .int .i64 0 := (he.get 2 97 (by kernel_rfl) rfl); exact op_callF (vs := #[.int .i64 0]) rfl (by simp only [List.map_toArray, List.map_cons, List.map_nil, e0]) (enters_of Tryz.func12 (by kernel_rfl) rfl) (((num_n 0 W (by decide))).mono fun e W' ⟨he', hw'⟩ => ⟨_, he', hw' ▸ Later.refl _, rfl⟩)
            · exact fun ac W hL he => stepOk_want rfl (op_binOp rfl (he.get 1 96 (by kernel_rfl) rfl) (he.get 3 98 (by kernel_rfl) rfl) eqg_add (add00 W) rfl)
            · exact fun ac W hL he => stepOk_want rfl (op_binOp rfl (he.get 4 99 (by kernel_rfl) rfl) rfl eqgI (neqI_me _ _ _) rfl)
            · exact fun ac W hL he => stepOk_want rfl (op_move rfl (he.get 5 100 (by kernel_rfl) rfl))
            · exact fun ac W hL he => stepOk_yes (j := 6) (t := 101) (b := false) rfl rfl (he.get 6 101 (by kernel_rfl) rfl) (op_load rfl (he.keep (.tmp 19) (by kernel_rfl)) (loadSaid HTW.out.2 (k19.later hL)) rfl)
            · exact fun ac W hL he => stepOk_yes (j := 6) (t := 101) (b := false) rfl rfl (he.get 6 101 (by kernel_rfl) rfl) (op_move rfl (he.keep (.tmp 0) (by kernel_rfl)))
            · exact fun ac W hL he => stepOk_yes (j := 6) (t := 101) (b := false) rfl rfl (he.get 6 101 (by kernel_rfl) rfl) (op_move rfl (he.keep (.tmp 14) (by kernel_rfl)))
            · exact fun ac W hL he => stepOk_yes (j := 6) (t := 101) (b := false) rfl rfl (he.get 6 101 (by kernel_rfl) rfl) (op_idx rfl (he.get 8 103 (by kernel_rfl) rfl) (he.get 9 104 (by kernel_rfl) rfl) (HIX.out W) rfl)
            · exact fun ac W hL he => stepOk_yes (j := 6) (t := 101) (b := false) rfl rfl (he.get 6 101 (by kernel_rfl) rfl) (op_fieldAddr rfl (he.get 10 105 (by kernel_rfl) rfl) fieldTold1 rfl)
            · exact fun ac W hL he => stepOk_yes (j := 6) (t := 101) (b := false) rfl rfl (he.get 6 101 (by kernel_rfl) rfl) (op_load rfl (he.get 11 106 (by kernel_rfl) rfl) (loadToldSM HTW.out (HCI.out W (hL25'.step hL))) rfl)
            · exact fun ac W hL he => stepOk_yes (j := 6) (t := 101) (b := false) rfl rfl (he.get 6 101 (by kernel_rfl) rfl) (op_binOp rfl (he.get 7 102 (by kernel_rfl) rfl) (he.get 12 107 (by kernel_rfl) rfl) (eqgSaid _ _ _ _ _ W) (neqSaidMe HTW.out.2 W) rfl)
            · exact fun ac W hL he => stepOk_want rfl (op_pick (b := false) rfl (he.get 6 101 (by kernel_rfl) rfl) (he.get 13 108 (by kernel_rfl) rfl))
            intro zz w26 hL26 hzz
            have e109 : zz 14 = .bool false := hzz 14 (by decide)
            have hL26' : Later wr w26 := hL25'.step hL26
            have hrd26 := hrd25.later hL26
            have hB6 := HB.out.later hL26'
            clear hzz hL26 hL25' hrd25 k19 HB
            simp only [putL, Nat.reduceAdd, Act.put, List.setIfInBounds_toArray, List.set_cons_succ, List.set_cons_zero]
            rw [e109]
            clear e109
            have hal := allOf_len sd hB6.ok
            have hrl : N15 ≤ 6000 := by have := rawOf_len HOKT.out; have h1 := HR.out; have h2 := HN15.out; rw [h1] at this; omega
            go_upto_region 23 with (first
              | (at_builtin; refine wpList_append_bytes rfl (.tmp 110) (.tmp 111) 32 rfl w.heap.size 5 Tryz.underlying32 byteInfo _ (allOf sd) rfl hB6.all A15 N15 c15 R rfl HN15.out hrd26 (by omega) hB6.sz ?_; intro v27 w27 hown27 hg27 hat27)
              | fail)
            have hX := hB6.toBX.grow_all hg27 hown27
            have hok6 := hB6.ok
            have hle6 := hB6.le
            obtain ⟨la, hla⟩ : ∃ l, allOf sd ++ R = l := ⟨_, rfl⟩
            rw [hla] at hX
            obtain ⟨A27, c27, e27, hc27, hcm27, hrd27⟩ := hX.all.slice
            subst e27
            obtain ⟨z, hz⟩ : ∃ z, la.length = z := ⟨_, rfl⟩
            rw [hz] at hX hc27 ⊢
            have hXa := hX.later ((Later.refl w27).alloc (.cells #[.int .i64 (z : Int)] 3))
            have k12n := Row.new w27 3 #[.int .i64 (z : Int)]
            have c12 : w27.cell? ⟨q12, 0, none⟩ = some va := (hX.r12.cell 0).trans rfl
            have hel : (endsL sd).length ≤ 1000 := by unfold endsL; simp; omega
            clear hrd26 hown27 hg27 hat27 hB6 hX hrd27 hL26' hal hrl
            go_upto_region 24 with (first
              | (at_builtin; go_loud (refine wpList_append_int rfl (.tmp 113) (.tmp 116) rfl w.heap.size va (endsL sd) rfl hXa.ends w27.heap.size 1 (z : Int) rfl k12n hel hXa.sz ?_); intro v28 w28 hown28 hg28 hat28; have k12b := row_grown hg28 (fun {k} e => OwnInts.type hXa.ends e) hXa.r12 (by decide); have c12b : w28.cell? ⟨q12, 0, none⟩ = some va := (k12b.cell 0).trans rfl; have f12b : w28.frozen? ⟨q12, 0, none⟩ = false := k12b.frozen 0; obtain ⟨A28, c28, e28, -⟩ := hown28.slice; obtain ⟨m28, hm28⟩ : ∃ m, (endsL sd ++ [(z : Int)]).length = m := ⟨_, rfl⟩; rw [hm28] at e28; subst e28)
              | fail)
            have hX2 := hXa.grow_ends hqX.2 hg28 hown28
            obtain ⟨w29, hw29⟩ : ∃ W, w28.setCell ⟨q12, 0, none⟩ (.slice A28 m28 c28) = W := ⟨_, rfl⟩
            rw [hw29] at hX2 ⊢
            obtain ⟨vE, hvE⟩ : ∃ v, Value.slice A28 m28 c28 = v := ⟨_, rfl⟩
            simp only [hvE] at hX2 ⊢
            clear hown28 hg28 hat28 k12b c12b f12b c12 k12n hXa hw29 hvE hel
            have hq13w : w.heap.size ≤ q13 := by omega
            refine (wpIn_wide (n := 0)).1 ?_
            refine wpIn_region_cv wide_wide [vb, .slice (some ⟨bA, oA, none⟩) n c, .int .i64 (i : Int), .pointer (some ⟨bA, oA + i * 334, none⟩), .agg (toldC t), undef, undef] [5, 6] (RTl w q q12 q13 la (endsL sd ++ [(z : Int)]) sd t (.slice A27 z c27) vE vb) RTl.later hX2 (by kernel_rfl) (by kernel_rfl) (by kernel_rfl) (by kernel_rfl) (by kernel_rfl) (by kernel_rfl) rfl (by decide) rfl ⟨?_, ?_, ?_, ?_, ?_, ?_, ?_, trivial⟩ ?_
            · exact cvStep_val rfl (fun ac W rs he hA => stepOk_want rfl (op_load rfl (he.keep (.tmp 13) (by kernel_rfl)) (loadTlV ((hA.base.2.cell 0).trans rfl)) rfl))
            · exact cvStep_val rfl (fun ac W rs he hA => stepOk_want rfl (op_move rfl (he.keep (.tmp 0) (by kernel_rfl))))
            · exact cvStep_val rfl (fun ac W rs he hA => stepOk_want rfl (op_move rfl (he.keep (.tmp 14) (by kernel_rfl))))
            · exact cvStep_val rfl (fun ac W rs he hA => stepOk_want rfl (op_idx rfl (show ac.eval (.tmp 119) = .slice (some ⟨bA, oA, none⟩) n c from he.val 1 119 (by kernel_rfl) rfl rfl) (show ac.eval (.tmp 120) = .int .i64 (i : Int) from he.val 2 120 (by kernel_rfl) rfl rfl) (HIX.out W) rfl))
            · exact cvStep_val rfl (fun ac W rs he hA => stepOk_want rfl (op_load rfl (show ac.eval (.tmp 121) = .pointer (some ⟨bA, oA + i * 334, none⟩) from he.val 3 121 (by kernel_rfl) rfl rfl) (loadToldM HTW.out (HCW.out W hA.base.1)) rfl))
            · refine cvStep_put (k := 0) rfl (.inl rfl) (fun ac W rs hlen he hA => ⟨rfl, ?_⟩)
              obtain rfl := List.eq_nil_of_length_eq_zero hlen
              have e0 : ac.eval (.tmp 122) = .agg (toldC t) := he.val 4 122 (by kernel_rfl) rfl rfl
              exact op_buildSliceK (vs := #[(0, .agg (toldC t))]) rfl (by simp only [List.map_toArray, List.map_cons, List.map_nil, e0]) (buildTl HTW.out W) ⟨_, rfl, BX.later hA ((Later.refl W).alloc _), W.heap.size, rfl, Row.new _ _ _⟩
            · refine cvStep_put (k := 1) rfl (.inr (by kernel_rfl)) (fun ac W rs hlen he hA => ⟨rfl, ?_⟩)
              obtain ⟨x, rfl⟩ := List.length_eq_one_iff.1 hlen
              obtain ⟨hBX, g, rfl, hrg⟩ := hA
              have e0 : ac.eval (.tmp 118) = vb := he.val 0 118 (by kernel_rfl) rfl rfl
              have e1 : ac.eval (.tmp 123) = .slice (some ⟨g, 0, none⟩) 1 1 := he.res 0 123 (by decide) (by kernel_rfl) rfl
              exact op_append_tl rfl (.tmp 118) (.tmp 123) rfl w.heap.size vb sd e0 hBX.tls g 1 t HTW.out e1 hrg (by omega) hBX.sz (fun v' w' h1 h2 h3 => ⟨v', rfl, W, hBX, h2, h1⟩)
            intro xs W hA hx hk2 hgt
            have hA' : RTl w q q12 q13 la (endsL sd ++ [(z : Int)]) sd t (.slice A27 z c27) vE vb [xs 5, xs 6] W := hA
            obtain ⟨W0, hBX, hg0, ho⟩ := hA'
            have h13 := row_grown hg0 (fun {k} e => OwnTl.type hBX.tls e) hBX.r13 (by decide)
            obtain ⟨A9, c9, e9⟩ := ho.shape
            have hX3 := hBX.grow_tls hq13w hg0 ho
            refine last_store rfl rfl (hk2 (.tmp 13) (by kernel_rfl)) (hgt 6 124 (by decide) (by kernel_rfl)) (storeTlV e9 ((h13.cell 0).trans rfl) (h13.frozen 0)) ?_
            clear hx hk2 hgt hA ho h13 e9 hBX hg0 hX2
            simp only [initL, lastL, putL, Nat.reduceAdd, Act.put, List.setIfInBounds_toArray, List.set_cons_succ, List.set_cons_zero]
            generalize xs 6 = v30 at *
            have hla2 : allOf (sd ++ [t]) = la := by rw [allOf_snoc, ← hla, HR.out]
            have hzs2 : endsL (sd ++ [t]) = endsL sd ++ [(z : Int)] := by rw [endsL_snoc, hla2, hz]
            rw [← hla2, ← hzs2] at hX3
            go_wp2_with fail
            go_roundw
            case rel =>
              exact ⟨i + 1, sd ++ [t], vE, v30, by omega, by go_num, ⟨hX3, by
                intro x hx
                rcases List.mem_append.1 hx with h | h
                · exact hok6 x h
                · rw [List.mem_singleton.1 h]; exact HOKT.out, by rw [List.length_append, List.length_singleton]; omega⟩⟩
            case measure => simp [intOf]; omega
      · obtain rfl : i = n := by omega
        have hX := hB.toBX
        have hok := hB.ok
        have hle := hB.le
        clear hB
        obtain ⟨A11, c11, e11, hc11, hcm11, hrd11⟩ := hX.all.slice
        obtain ⟨m11, hm11⟩ : ∃ m, (allOf sd).length = m := ⟨_, rfl⟩
        have hal := allOf_len sd hok
        rw [hm11] at e11 hc11 hal
        subst e11
        obtain ⟨M, hM⟩ : ∃ M, sd.length = M := ⟨_, rfl⟩
        have hel : (endsL sd).length = M := by simp [endsL, hM]
        obtain ⟨At, cT, rfl⟩ := hX.tls.shape
        obtain ⟨Ai, ci, eai, -⟩ := hX.ends.slice
        rw [hel] at eai
        subst eai
        rw [hM] at hX hle hal
        have hd : decide ((i : Int) < (i : Int)) = false := decide_eq_false (by omega)
        have hd' : decide (i < i) = false := decide_eq_false (by omega)
        go_upto_region 26 with fail
        obtain ⟨ct, hct, hcm⟩ : ∃ ct : Nat, (if 0 < (if cut < (m11 : Int) then cut else (m11 : Int)) then (if cut < (m11 : Int) then cut else (m11 : Int)) else 0) = (ct : Int) ∧ ct ≤ m11 := by
          refine ⟨(if 0 < (if cut < (m11 : Int) then cut else (m11 : Int)) then (if cut < (m11 : Int) then cut else (m11 : Int)) else 0).toNat, ?_, ?_⟩ <;> (repeat' split) <;> omega
        rw [hct]
        clear hd hd' hct hcut
        generalize (if cut < (m11 : Int) then cut else (m11 : Int)) = e128
        have k21 := Row.new wr 3 #[.int .i64 0]
        have hLn := (Later.refl wr).alloc (.cells #[.int .i64 0] 3)
        obtain ⟨l2, hl2⟩ : ∃ l, (allOf sd).take ct = l := ⟨_, rfl⟩
        have hl2n : l2.length = ct := by rw [← hl2, List.length_take]; omega
        have hrd2 : Rd wr A11 l2 := hl2 ▸ hrd11.take ct
        have hrd2n := hrd2.later hLn
        have hsl : ∀ W : World, (Instr.sliceAt 32 (.slice A11 m11 c11) none (some (.int .i64 (ct : Int))) none).run Tryz.prog W = .ok (.slice A11 ct c11) W := run_slice_upto (k := ct) Tryz.underlying32 byteInfo (by omega)
        go_upto_region 27 with fail
        have hsz21 : (wr.alloc (.cells #[.int .i64 0] 3)).heap.size = wr.heap.size + 1 := by simp
        obtain ⟨q21, hq21⟩ : ∃ x, x = wr.heap.size := ⟨_, rfl⟩
        rw [← hq21] at k21 hsz21 ⊢
        have HQ21 := Lib.hid hq21
        clear hq21 hrd2 hrd11
        generalize wr.alloc (.cells #[.int .i64 0] 3) = w30 at *
        have hall := mAll_any A11 ct c11 l2 w30 hl2n (by omega) hrd2n
        have HALL := Lib.hid hall
        have hnil := fun X g => eqlSeqNil (W := X) (.func 52) #[] #[.pointer (some ⟨g, 0, none⟩)]
        clear hall
        go_upto_region 29 with (first
          | (go_at_call 18; refine HALL.out.mono ?_; rintro e w31 ⟨gs0, gf0, gd0, A160, c160, rfl, -, -, -, -, -, -, -, -, -, -, hL31⟩)
          | fail)
        have k21b := k21.later hL31
        have hsz31 := hL31.size
        have hLr31 : Later wr w31 := hLn.step hL31
        have hall := mAll_any A11 ct c11 l2 w31 hl2n (by omega) (hrd2n.later hL31)
        have HALL := Lib.hid hall
        clear hall hnil hrd2n hL31 hLn k21
        go_wp2_with (first
          | (go_at_call 18; refine HALL.out.mono ?_; rintro e WA ⟨gs, gf, gd, A16, c16, rfl, kf, ks, hrd16, hc16, hcm16, hgb, hgs1, hgf1, hgd1, hgd2, hLA⟩)
          | fail)
        have hLrA : Later wr WA := hLr31.step hLA
        have k21A := k21b.later hLA
        have hszA := hLA.size
        clear HALL hLA k21b hLr31
        have hseq := mall1_seq l2 gs gf gd A16 ct c16 WA 11 (by omega) (fun b => b = q21 ∨ b = WA.heap.size + 1) (by rintro b (h | h) <;> omega) (by have := ks.lt; rintro (h | h) <;> omega) (by have := kf.lt; rintro (h | h) <;> omega) (by rintro (h | h) <;> omega) hl2n hc16 (by unfold maxLen at hcm16; omega) (by omega) hrd16 hgb kf ks hgd2
        have HS := Lib.hid hseq
        have hq21A : q21 < WA.heap.size := by omega
        have hq21r : wr.heap.size ≤ q21 := by have := HQ21.out; omega
        have HHL := Lib.hid hl2
        clear hseq kf ks hrd16 hgb hgs1 hgf1 hgd1 hgd2 hsz21 hsz31 hszA hl2n hl2 hc16 hcm16 HQ21
        refine name_frame fun T0 hT0 => ?_
        rename_i K0 hK0
        have hrest : ∀ (K : Nat) (D : Nat) (X : World), WA.heap.size ≤ D → X.heap[D]? = some (.deferred (some [])) → Row X q21 3 #[.int .i64 (K : Int)] → (K = sd.length ∨ (K < sd.length ∧ ct < endT sd (K + 1))) → Later wr X → K0 { tmps := T0, defers := { target := .collected D, args := #[] } :: [] } X := by
          intro K D0 X0 hD0 hKD0 kn hKend hLX
          refine hK0 _ _ ?_
          rw [hT0]
          clear hT0 HS hK0
          have hX0 := hX.later hLX
          have k6X := hX0.r6
          have c21 : X0.cell? ⟨q21, 0, none⟩ = some (.int .i64 (K : Int)) := (kn.cell 0).trans rfl
          have c13 : X0.cell? ⟨q13, 0, none⟩ = some (.slice At M cT) := (hX0.r13.cell 0).trans rfl
          have c12 : X0.cell? ⟨q12, 0, none⟩ = some (.slice Ai M ci) := (hX0.r12.cell 0).trans rfl
          have hqr := hX.r6.lt
          have hrA := hLrA.size
          rw [hM] at hKend
          rcases hKend with rfl | ⟨hlt, hend⟩
          · have he : ((K : Int) == (K : Int)) = true := by simp
            go_wp2_with (first
              | (go_at_call 9; refine (works_yes _).mono ?_; rintro e w25 ⟨rfl, hL25⟩; have k625 := k6X.later hL25; have c625 : w25.cell? ⟨q, 0, none⟩ = some (.bool false) := (k625.cell 0).trans rfl; have f625 : w25.frozen? ⟨q, 0, none⟩ = false := k625.frozen 0)
              | fail)
            have hfin := leaveX1 (q := q) hKD0 hX0.lat k625 hL25 (by omega) (by have := HQ.out; omega)
            exact leaveM1 hfin.1 (by simp [results, Tryz.results6, go_sem, hfin.2.1]) (HΦ.out _ _ ⟨rfl, hfin.2.2⟩)
          · have he : ((K : Int) == (M : Int)) = false := by simp; omega
            obtain ⟨bi, rfl, -, -, hcK⟩ := hX0.ends.get K (by rw [hel]; exact hlt)
            have ezK : (endsL sd)[K]'(by rw [hel]; exact hlt) = (endT sd (K + 1) : Int) := by simp [endsL]
            rw [ezK] at hcK
            generalize endT sd (K + 1) = EK at *
            have hKl : (K : Int) < (M : Int) := by omega
            have hdg : decide ((ct : Int) < (EK : Int)) = true := decide_eq_true (by omega)
            have hdg' : decide (ct < EK) = true := decide_eq_true hend
            go_wp2_with (first
              | (go_at_call 9; refine (works_yes _).mono ?_; rintro e w25 ⟨rfl, hL25⟩; have k625 := k6X.later hL25; have c625 : w25.cell? ⟨q, 0, none⟩ = some (.bool false) := (k625.cell 0).trans rfl; have f625 : w25.frozen? ⟨q, 0, none⟩ = false := k625.frozen 0)
              | fail)
            have hfin := leaveX1 (q := q) hKD0 hX0.lat k625 hL25 (by omega) (by have := HQ.out; omega)
            exact leaveM1 hfin.1 (by simp [results, Tryz.results6, go_sem, hfin.2.1]) (HΦ.out _ _ ⟨rfl, hfin.2.2⟩)
        refine (wpIn_wide (n := 12)).1 ?_
        refine wpIn_range_W (α := Td) (Kp := KeepT (fun b => b = q21 ∨ b = WA.heap.size + 1)) rfl (by omega) (gf := 52) (lb := #[.pointer (some ⟨gs, 0, none⟩)]) (by rw [hT0]; rfl) trivial (enters_of Tryz.func52 (by kernel_rfl) rfl)
          HS.out (fun r h => h.elim) (fun h k => h.trans k) (fun x W o => KeepW.put W o (.inr rfl)) (Below.refl _ _) (fun _ => rfl)
          (fun pre X => pre.length ≤ M ∧ endT sd pre.length ≤ ct ∧ Row X q21 3 #[.int .i64 (pre.length : Int)] ∧ Same (fun k => k < WA.heap.size ∧ k ≠ q21) WA X)
          (fun c pre X => False)
          (fun pre X Y ⟨h1, h2, h3, h4⟩ hs => ⟨h1, h2, h3.same hs ⟨by omega, fun h => h⟩, h4.trans (hs.mono fun k hk => ⟨hk.1, fun h => h⟩)⟩)
          (fun c pre X Y h _ => h)
          ⟨by simp, by show endT sd 0 ≤ ct; simp [endT, Wr.endOf, Wr.fr], k21A, Same.refl _ _⟩
          (fun pre x a' X => ∃ gt, a' = { tmps := ((((T0.setIfInBounds 139 (.int .i64 x.at_)).setIfInBounds 140 (.agg (toldC x.t))).setIfInBounds 22 (.int .i64 x.at_)).setIfInBounds 23 (.pointer (some ⟨gt, 0, none⟩))), defers := [] } ∧ TdOk l2 pre x X ∧ Row X gt 48 (toldC x.t) ∧ WA.heap.size + 2 ≤ gt)
          (fun pre x a' X o ⟨gt, h1, h2, h3, h4⟩ => ⟨gt, h1, h2, (World.putObj_heap_other (by omega)).trans h3, h4⟩) ?assign ?body ?done ?stop
        case assign =>
          intro l0 pre x X K hXs hi hok2 hK
          have hTw : x.t.wf := by rw [hok2.2]; exact toldOf_wf _
          obtain ⟨w9, hst, k9, hL9⟩ := newTold X hTw
          have HK := Lib.hid hK
          have HI := Lib.hid hi
          have HOK := Lib.hid hok2
          clear hK hi hok2
          have e89 : ((#[139, 140] : Array Tmp).zip (tdE x)).foldl (fun t (p, v) => t.setIfInBounds p v) T0 = (T0.setIfInBounds 139 (.int .i64 x.at_)).setIfInBounds 140 (.agg (toldC x.t)) := by simp
          rw [e89, hT0]
          clear e89
          simp only [List.setIfInBounds_toArray, List.set_cons_succ, List.set_cons_zero]
          gi_wp2_with (first
            | (refine wpListIn_allocR rfl 48 rfl (allocTold _) ?_)
            | (refine wpListIn_storeR rfl 48 (.tmp 23) (.tmp 140) rfl (.pointer (some ⟨X.heap.size, 0, none⟩)) (.agg (toldC x.t)) rfl rfl hst ?_)
            | fail)
          obtain ⟨i1, i2, i3, i4⟩ := HI.out
          exact HK.out _ _ (KeepsFrom.of_later hL9) (KeepW.later hL9) ⟨i1, i2, i3.later hL9, i4.trans ((Same.of_below hL9).mono fun k hk => by have := hk.1; have := i4.size; omega)⟩ ⟨X.heap.size, by rw [hT0]; rfl, HOK.out, k9, hXs⟩
        case body =>
          rintro l0 pre x a' X hl hlo hXs ⟨h1, hcond, h3, h4⟩ ⟨gt, rfl, hok2, hrt, hgt⟩
          obtain ⟨g1, g2⟩ := hok2
          have hplen : (pre ++ [x]).length = pre.length + 1 := by simp
          obtain ⟨k, hk⟩ : ∃ k, pre.length = k := ⟨_, rfl⟩
          rw [hk] at h1 hcond h3 g1 g2 hplen
          obtain ⟨hki, hec, hta⟩ := (tgo_at hok ct k (by rw [hM]; exact h1) hcond).1 (by rw [HHL.out]; exact g1 k (Nat.le_refl _))
          rw [HHL.out, ← g2] at hta
          obtain ⟨t, ht⟩ : ∃ t, sd[k] = t := ⟨_, rfl⟩
          have hTw : t.wf := (hok _ (ht ▸ List.getElem_mem hki)).1
          have hBA : Below wr.heap.size WA X := Same.below (h4.mono fun j (hj : j < wr.heap.size) => ⟨by have := hLrA.size; omega, by omega⟩)
          have hXk := hX.later (Below.trans hLrA hBA)
          have hkM : k < M := by rw [← hM]; exact hki
          obtain ⟨bi, rfl, -, -, hci⟩ := hXk.ends.get k (by rw [hel]; exact hkM)
          obtain ⟨bt, cs, rfl, -, hrb, hcs⟩ := hXk.tls.get k hki
          have ezk : (endsL sd)[k]'(by rw [hel]; exact hkM) = (endT sd (k + 1) : Int) := by simp [endsL]
          rw [ezk] at hci
          rw [ht] at hta hcs
          have hEC := Lib.hid hec
          obtain ⟨ek, hek⟩ : ∃ e, endT sd (k + 1) = e := ⟨_, rfl⟩
          rw [hek] at hta hci
          clear hek
          subst hta
          simp only at hrt
          have hldB2 := fun W (hL : Later X W) => loadToldAt (o := 0 + k * 334) hTw (hrb.later hL) (fun i hi => by rw [Nat.zero_add]; exact hcs i hi)
          have HXK := Lib.hid hXk
          rw [hT0]
          simp only [List.setIfInBounds_toArray, List.set_cons_succ, List.set_cons_zero]
          have HREST := Lib.hid hrest
          have HPL := Lib.hid hplen
          have h12 := hXk.r12
          have h13 := hXk.r13
          clear hplen g1 g2 hT0 hrest hK0 HS hcs hX hXk hrb hcond ezk
          have hk9 : (k : Int) + 1 ≤ 9223372036854775807 := by omega
          gi_wp2_with fail
          have WR0 := wide_round l0
          refine wpIn_region_vals WR0 [Pr.eq (.int .i64 (k : Int)), Pr.eq (.slice (some ⟨bt, 0, none⟩) M cT), Pr.eq (.int .i64 (M : Int)), Pr.eq (.bool false), Pr.eq (.bool false), Pr.eq (.int .i64 (ek : Int)), Pr.eq (.slice (some ⟨bi, 0, none⟩) M ci), Pr.eq (.int .i64 (k : Int)), Pr.eq (.pointer (some ⟨bi, k, none⟩)), Pr.eq (.int .i64 (ek : Int)), Pr.eq (.bool false), Pr.eq (.bool false), Pr.eq (.bool false), Pr.eq (.agg (toldC t)), Pr.eq (.slice (some ⟨bt, 0, none⟩) M cT), Pr.eq (.int .i64 (k : Int)), Pr.eq (.pointer (some ⟨bt, 0 + k * 334, none⟩)), Pr.eq (.agg (toldC t)), Pr.eq (.bool false), Pr.eq (.bool false)] (by kernel_rfl) (by kernel_rfl) (by kernel_rfl) (by kernel_rfl) (by kernel_rfl) ⟨?_, ?_, ?_, ?_, ?_, ?_, ?_, ?_, ?_, ?_, ?_, ?_, ?_, ?_, ?_, ?_, ?_, ?_, ?_, ?_, trivial⟩ ?_
          · exact fun ac W hL he => stepOk_want rfl (op_load rfl (he.keep (.tmp 21) (by kernel_rfl)) (loadInt ((h3.later hL).cell 0 |>.trans rfl)) rfl)
          · exact fun ac W hL he => stepOk_want rfl (op_load rfl (he.keep (.tmp 13) (by kernel_rfl)) (loadTlV ((h13.later hL).cell 0 |>.trans rfl)) rfl)
          · exact fun ac W hL he => stepOk_want rfl (op_len Tryz.underlying45 rfl (he.get 1 142 (by kernel_rfl) rfl) rfl)
          · exact fun ac W hL he => stepOk_want rfl (op_binOp rfl (he.get 0 141 (by kernel_rfl) rfl) (he.get 2 143 (by kernel_rfl) rfl) rfl (geqI (by omega)) rfl)
          · exact fun ac W hL he => stepOk_want rfl (op_move rfl (he.get 3 144 (by kernel_rfl) rfl))
          · exact fun ac W hL he => stepOk_yes (j := 4) (t := 145) (b := false) rfl rfl (he.get 4 145 (by kernel_rfl) rfl) (op_move rfl (he.keep (.tmp 22) (by kernel_rfl)))
          · exact fun ac W hL he => stepOk_yes (j := 4) (t := 145) (b := false) rfl rfl (he.get 4 145 (by kernel_rfl) rfl) (op_load rfl (he.keep (.tmp 12) (by kernel_rfl)) (loadIntsV ((h12.later hL).cell 0 |>.trans rfl)) rfl)
          · exact fun ac W hL he => stepOk_yes (j := 4) (t := 145) (b := false) rfl rfl (he.get 4 145 (by kernel_rfl) rfl) (op_load rfl (he.keep (.tmp 21) (by kernel_rfl)) (loadInt ((h3.later hL).cell 0 |>.trans rfl)) rfl)
          · exact fun ac W hL he => stepOk_yes (j := 4) (t := 145) (b := false) rfl rfl (he.get 4 145 (by kernel_rfl) rfl) (op_idx rfl (he.get 6 147 (by kernel_rfl) rfl) (he.get 7 148 (by kernel_rfl) rfl) (idxIntV W hkM) rfl)
          · exact fun ac W hL he => stepOk_yes (j := 4) (t := 145) (b := false) rfl rfl (he.get 4 145 (by kernel_rfl) rfl) (op_load rfl (he.get 8 149 (by kernel_rfl) rfl) (loadInt (hL.cell hci)) rfl)
          · exact fun ac W hL he => stepOk_yes (j := 4) (t := 145) (b := false) rfl rfl (he.get 4 145 (by kernel_rfl) rfl) (op_binOp rfl (he.get 5 146 (by kernel_rfl) rfl) (he.get 9 150 (by kernel_rfl) rfl) eqgI (neqI_me _ _ _) rfl)
          · exact fun ac W hL he => stepOk_want rfl (op_pick (b := false) rfl (he.get 4 145 (by kernel_rfl) rfl) (he.get 10 151 (by kernel_rfl) rfl))
          · exact fun ac W hL he => stepOk_want rfl (op_move rfl (he.get 11 152 (by kernel_rfl) rfl))
          · exact fun ac W hL he => stepOk_yes (j := 12) (t := 153) (b := false) rfl rfl (he.get 12 153 (by kernel_rfl) rfl) (op_load rfl (he.keep (.tmp 23) (by kernel_rfl)) (loadTold hTw (hrt.later hL)) rfl)
          · exact fun ac W hL he => stepOk_yes (j := 12) (t := 153) (b := false) rfl rfl (he.get 12 153 (by kernel_rfl) rfl) (op_load rfl (he.keep (.tmp 13) (by kernel_rfl)) (loadTlV ((h13.later hL).cell 0 |>.trans rfl)) rfl)
          · exact fun ac W hL he => stepOk_yes (j := 12) (t := 153) (b := false) rfl rfl (he.get 12 153 (by kernel_rfl) rfl) (op_load rfl (he.keep (.tmp 21) (by kernel_rfl)) (loadInt ((h3.later hL).cell 0 |>.trans rfl)) rfl)
          · exact fun ac W hL he => stepOk_yes (j := 12) (t := 153) (b := false) rfl rfl (he.get 12 153 (by kernel_rfl) rfl) (op_idx rfl (he.get 14 155 (by kernel_rfl) rfl) (he.get 15 156 (by kernel_rfl) rfl) (idxTl W hkM) rfl)
          · exact fun ac W hL he => stepOk_yes (j := 12) (t := 153) (b := false) rfl rfl (he.get 12 153 (by kernel_rfl) rfl) (op_load rfl (he.get 16 157 (by kernel_rfl) rfl) (hldB2 W hL) rfl)
          · exact fun ac W hL he => stepOk_yes (j := 12) (t := 153) (b := false) rfl rfl (he.get 12 153 (by kernel_rfl) rfl) (op_binOp rfl (he.get 13 154 (by kernel_rfl) rfl) (he.get 17 158 (by kernel_rfl) rfl) (eqgTold _ _ _ _ _ W) (neqToldMe hTw W) rfl)
          · exact fun ac W hL he => stepOk_want rfl (op_pick (b := false) rfl (he.get 12 153 (by kernel_rfl) rfl) (he.get 18 159 (by kernel_rfl) rfl))
          intro zz Wz hL hzz
          have e160 : zz 19 = .bool false := hzz 19 (by decide)
          have k21z := h3.later hL
          have hszX := h4.size
          have hszz := hL.size
          clear hzz h3 hldB2 hrt h12 h13 hci
          simp only [putL, Nat.reduceAdd, Act.put, List.setIfInBounds_toArray, List.set_cons_succ, List.set_cons_zero]
          rw [e160]
          clear e160
          have c21 : Wz.cell? ⟨q21, 0, none⟩ = some (.int .i64 (k : Int)) := (k21z.cell 0).trans rfl
          have f21 : Wz.frozen? ⟨q21, 0, none⟩ = false := k21z.frozen 0
          have hset := k21z.set 0 (.int .i64 ((k : Int) + 1))
          have hwr1 : IntKind.i64.wrap ((k : Int) + 1) = (k : Int) + 1 := IntWalk.i64_in _ (by omega)
          have hkwX : KeepW (fun b => b = q21) noFr X (Wz.setCell ⟨q21, 0, none⟩ (.int .i64 ((k : Int) + 1))) := (KeepW.later hL).trans (KeepW.set Wz ⟨q21, 0, none⟩ _ rfl)
          have hkf : KeepsFrom WA.heap.size X (Wz.setCell ⟨q21, 0, none⟩ (.int .i64 ((k : Int) + 1))) := hkwX.from (fun b h => by omega) (fun b o e => by cases e)
          have hkw2 : KeepW (fun b => b = q21 ∨ b = WA.heap.size + 1) noFr X (Wz.setCell ⟨q21, 0, none⟩ (.int .i64 ((k : Int) + 1))) := hkwX.mono (fun b h => .inl h) rfl
          have hsame : Same (fun k => k < WA.heap.size ∧ k ≠ q21) WA (Wz.setCell ⟨q21, 0, none⟩ (.int .i64 ((k : Int) + 1))) := (h4.trans ((Same.of_below hL).mono fun k hk => by have := hk.1; omega)).trans ((Same.set Wz ⟨q21, 0, none⟩ _).mono fun k hk => hk.2)
          clear hkwX h4 hL k21z
          gi_wp2_with fail
          exact ⟨hkf, hkw2, by rw [HPL.out]; exact hkM, by rw [HPL.out]; exact hEC.out, by rw [HPL.out]; exact hset, hsame⟩
        case done =>
          rintro D0 ys X hD hS ⟨h1, h2, h3, h4⟩ hK
          have hend := (tgo_at hok ct ys.length (by rw [hM]; exact h1) h2).2 (by rw [HHL.out]; exact hS.1)
          exact hrest ys.length D0 X hD hK h3 hend (Below.trans hLrA (Same.below (h4.mono fun j (hj : j < wr.heap.size) => ⟨by have := hLrA.size; omega, by omega⟩)))
        case stop =>
          exact fun _ _ _ _ _ _ h _ => h.elim
  rw [hT0] at hrest ⊢
  simp only [List.setIfInBounds_toArray, List.set_cons_succ, List.set_cons_zero] at hrest
  clear hT0 hKr
  have HREST := Lib.hid hrest
  clear hrest
  cases ok
  · go_wp2_with (first
      | (go_at_call 12; refine (num_n 210 _ (by decide)).mono ?_; rintro e w4 ⟨rfl, rfl⟩)
      | fail)
    exact HREST.out _ _ _ _ _ _ _ _ _ _ _ _ _ _ _ _ _ _ _ _ _ (Later.refl _)
  · have hld := loadSaid hPw k7
    have hcv1 := strOf (c := c2) ((hr2.later hL1).later hL13) HN2.out
    have HLB := Lib.hid (fun W (h : Later w3 W) => strOf (c := c2) (((hr2.later hL1).later hL13).later h) HN2.out)
    clear hcv1
    go_wp2_with (first
      | (go_at_call 12; refine (num_n 0 _ (by decide)).mono ?_; rintro e w4 ⟨rfl, rfl⟩)
      | (guard_target =~ wpList _ _ _ (_ :: _) _ _; refine wpList_load rfl 29 (.tmp 7) rfl (.pointer (some ⟨q7, 0, none⟩)) rfl hld ?_)
      | (go_at_call 10; refine (HBK.out (by simp) _).mono ?_; rintro e w5 ⟨v9, rfl, hown9, hL5⟩; obtain ⟨A9, c9, e9, hc9, hcm9, hrd9⟩ := hown9.slice; rw [HN2.out] at e9 hc9; subst e9; have hcv1 := strOf (c := c9) hrd9 HN2.out; have hcv2 := HLB.out w5 hL5)
      | fail)
    exact HREST.out _ _ _ _ _ _ _ _ _ _ _ _ _ _ _ _ _ _ _ _ _ hL5
end Go.Proofs.YtcajhdmppfiaeaaGreat
namespace Go.Proofs.YtcajhdmppfiaeaaGreat
open Go.RowKit Ms
def leafOf (P : Program) : Nat → TypeId → Nat → Option TypeId
  | 0, _, _ => none
  | k + 1, t, o =>
    match P.underlying t with
    | some (.int _) => if o = 0 then some t else none
    | some .string => if o = 0 then some t else none
    | some (.array n e) => if o / P.cellsOf e < n ∧ 0 < P.cellsOf e then leafOf P k e (o % P.cellsOf e) else none
    | some (.struct fs) =>
      match (List.range fs.size).find? (fun i => match fs[i]? with | some f => decide (f.offset ≤ o) && decide (o < f.offset + P.cellsOf f.type) | none => false) with
      | some i => match fs[i]? with
        | some f => leafOf P k f.type (o - f.offset)
        | none => none
      | none => none
    | _ => none
theorem take_drop_at {α : Type} (l : List α) (a c j : Nat) (v : α) (h : ((l.drop a).take c)[j]? = some v) : l[a + j]? = some v := by
  rw [List.getElem?_take] at h
  split at h
  · rwa [List.getElem?_drop] at h
  · cases h
theorem leafOf_trod {H : Type} {enc : TypeId × Value → H} {P : Program} {w : World} {base : Nat} {sp : Nat → Bool} {held : Bool} : ∀ (k : Nat) (t : TypeId) (o : Nat) (u : TypeId) (fuel : Nat) (cs : List Value) (x : DataW H × List MemPlace),
    leafOf P k t o = some u → DataW.trod enc P w base sp held fuel t cs = some x → ∃ v, cs[o]? = some v ∧ Cell.okWide P w .any 0 u v
  | 0, _, _, _, _, _, _, h, _ => by cases h
  | k + 1, t, o, u, fuel, cs, x, h, hx => by
    unfold leafOf at h
    rcases hu : P.underlying t with _ | d
    · rw [hu] at h; cases h
    · rw [hu] at h
      cases d <;> simp only [] at h <;> try (cases h; done)
      case int kk =>
        split at h
        · rename_i ho
          cases h
          subst ho
          obtain ⟨n, rfl, -, hw⟩ := DataW.trod_int hu hx
          refine ⟨_, rfl, ?_⟩
          unfold Cell.okWide Cell.ok
          rw [hu]
          simp only [Lit.wf, Bool.and_eq_true, decide_eq_true_eq] at hw
          exact ⟨rfl, hw⟩
        · cases h
      case string =>
        split at h
        · rename_i ho
          cases h
          subst ho
          obtain ⟨s, rfl, -, hw⟩ := DataW.trod_string hu hx
          refine ⟨_, rfl, ?_⟩
          unfold Cell.okWide Cell.ok
          rw [hu]
          show (s.size : Int) ≤ 9223372036854775807
          unfold maxLen at hw
          omega
        · cases h
      case array n e =>
        split at h
        · rename_i hn
          obtain ⟨xs, m, -, -, -, hl, hf⟩ := DataW.trod_array hu hx
          have h1 := hf (o / P.cellsOf e) hn.1
          rw [List.getElem?_eq_getElem (by omega)] at h1
          obtain ⟨v, h2, h3⟩ := leafOf_trod k e _ u _ _ _ h h1
          refine ⟨v, ?_, h3⟩
          have := take_drop_at _ _ _ _ _ h2
          rwa [Nat.div_add_mod'] at this
        · cases h
      case struct fs =>
        split at h
        · rename_i i hi
          split at h
          · rename_i f hf0
            obtain ⟨xs, m, -, -, -, hl, hf⟩ := DataW.trod_struct hu hx
            have h1 := hf i f hf0
            have hin : i < fs.size := (Array.getElem?_eq_some_iff.1 hf0).1
            rw [List.getElem?_eq_getElem (by omega)] at h1
            obtain ⟨v, h2, h3⟩ := leafOf_trod k f.type _ u _ _ _ h h1
            refine ⟨v, ?_, h3⟩
            have h4 := List.find?_some hi
            rw [hf0] at h4
            simp only [Bool.and_eq_true, decide_eq_true_eq] at h4
            have := take_drop_at _ _ _ _ _ h2
            rwa [Nat.add_sub_cancel' h4.1] at this
          · cases h
        · cases h
set_option maxRecDepth 100000 in
theorem told_leaves : ((List.range 334).map fun i => leafOf Tryz.prog 6 48 i) = toldT.map some := by kernel_rfl
set_option maxRecDepth 100000 in
theorem told_leaf (i : Nat) (hi : i < 334) : ∃ u, leafOf Tryz.prog 6 48 i = some u ∧ toldT[i]? = some u := by
  have hlen : toldT.length = 334 := by decide +kernel
  have h := congrArg (fun l => l[i]?) told_leaves
  simp only [List.getElem?_map, List.getElem?_range hi, Option.map_some] at h
  rw [List.getElem?_eq_getElem (by omega)] at h ⊢
  exact ⟨toldT[i], Option.some.inj h, rfl⟩
set_option maxRecDepth 100000 in
theorem in_tells {H : Type} {enc : TypeId × Value → H} {w : World} {held : Bool} {fuel len cap : Nat} {A : Option Addr} {x : DataW H × List MemPlace}
    (h : DataW.trod enc Tryz.prog w 0 (fun _ => true) held fuel 45 [.slice A len cap] = some x) : ∃ ts, InTells w A len cap ts := by
  rcases Deep.open_slice Tryz.underlying45 h with ⟨hcs, _⟩ | ⟨ad, l, c, m, n, D, Pl, hcs, _, hl, hm, hmm, _, hx⟩
  · injection hcs with h1
    injection h1 with h1 h2 h3
    subst h1 h2 h3
    exact ⟨[], rfl, Nat.le_refl _, Nat.zero_le _, by simp, fun e => absurd rfl e⟩
  · injection hcs with h1
    injection h1 with h1 h2 h3
    subst h1 h2 h3
    have hmc : m = cap := by rw [hmm]; rfl
    have ce : Tryz.prog.cellsOf 48 = 334 := by kernel_rfl
    have each : ∀ i, ∃ t : Tell, i < len → (t.wf ∧ t.s.route.length ≤ 9223372036854775807) ∧ ∀ j, j < 334 → w.cell? ((ad.add (i * 334)).add j) = (toldC t)[j]? := fun i => by
      by_cases hi : i < len
      · obtain ⟨cs', h1, h2⟩ := hx i (by omega)
        rw [ce] at h1
        obtain ⟨_, hlen, hcell⟩ := World.cells?_some h1
        obtain ⟨t, ht, hm, e⟩ := told_cells (w := w) (r := .any) (b := 0) (cs := cs'.toArray) (by simpa using hlen) (fun j hj => by
          obtain ⟨u, h3, h4⟩ := told_leaf j hj
          obtain ⟨v, h5, h6⟩ := leafOf_trod 6 _ j u _ _ _ h3 h2
          refine ⟨u, h4, ?_⟩
          have : cs'.toArray.getD j undef = v := by
            obtain ⟨hj5, e5⟩ := List.getElem?_eq_some_iff.1 h5
            simp [Array.getD, hj5, e5]
          rw [this]
          exact h6)
        refine ⟨t, fun _ => ⟨⟨ht, hm⟩, fun j hj => ?_⟩⟩
        rw [← e, List.getElem?_toArray]
        exact hcell j (by omega)
      · exact ⟨noTold, fun h => absurd h hi⟩
    obtain ⟨f, hf⟩ := Classical.axiomOfChoice each
    refine ⟨(List.range len).map f, by simp, hl, hm, ?_, fun hne => ?_⟩
    · intro t ht
      obtain ⟨i, hi, rfl⟩ := List.mem_map.1 ht
      exact (hf i (List.mem_range.1 hi)).1
    · have h0 : 0 < len := by
        rcases Nat.eq_zero_or_pos len with e | e
        · subst e; exact absurd rfl hne
        · exact e
      obtain ⟨b, o, rfl⟩ : ∃ b o, ad = ⟨b, o, none⟩ := by
        have h1 := (hf 0 h0).2 0 (by omega)
        rw [Array.getElem?_eq_getElem (by rw [toldC_size (hf 0 h0).1.1]; omega)] at h1
        exact ⟨_, _, addr_none (by simpa [Addr.add] using h1)⟩
      refine ⟨b, o, rfl, fun i hi j v hj => ?_⟩
      have hi' : i < len := by simpa using hi
      obtain ⟨⟨h1, _⟩, h2⟩ := hf i hi'
      simp only [List.getElem_map, List.getElem_range] at hj
      have hj3 : j < 334 := by
        have := (List.getElem?_eq_some_iff.1 hj).1
        rwa [tlC_len h1] at this
      rw [Array.getElem?_toList] at hj
      have h3 := h2 j hj3
      rw [addr_add, addr_add] at h3
      exact h3.trans hj
end Go.Proofs.YtcajhdmppfiaeaaGreat
namespace Go.Proofs.YtcajhdmppfiaeaaGreat
open Go.RowKit Ms
set_option maxRecDepth 100000 in
set_option maxHeartbeats 4000000 in
theorem msgsBack_out (A : Option Addr) (n c : Nat) (A2 : Option Addr) (n2 c2 : Nat) (cut : Int) (w : World) (hout : 8 < n ∨ (n ≤ 8 ∧ 1000 < n2)) :
    Calls Tryz.prog 6 #[.slice A n c, .slice A2 n2 c2, .int .i64 cut] w fun e w' => e = .returned (.bool true) ∧ Below w.heap.size w w' := by
  refine Calls.post fun Φ HΦ => ?_
  have k6 := Row.new w 4 #[.bool false]
  have hL1 := (Later.refl w).alloc (.cells #[.bool false] 4)
  go_enter Tryz.func6, Tryz.ntmps6
  go_upto_region 1 with fail
  obtain ⟨q, hq⟩ : ∃ q, q = w.heap.size := ⟨_, rfl⟩
  rw [← hq] at k6 ⊢
  have HQ := Lib.hid hq
  clear hq
  generalize w.alloc (.cells #[.bool false] 4) = w1 at *
  rcases hout with h | ⟨h1, h2⟩
  · have d1 : decide ((8 : Int) < (n : Int)) = true := decide_eq_true (by omega)
    have d1' : decide (8 < n) = true := decide_eq_true h
    go_wp2_with (first
      | (go_at_call 9; refine (works_yes _).mono ?_; rintro e w7 ⟨rfl, hL7⟩; have k67 := k6.later hL7; have c67 : w7.cell? ⟨q, 0, none⟩ = some (.bool false) := (k67.cell 0).trans rfl; have f67 : w7.frozen? ⟨q, 0, none⟩ = false := k67.frozen 0)
      | fail)
    have hcv : (w7.setCell ⟨q, 0, none⟩ (.bool true)).cell? ⟨q, 0, none⟩ = some (.bool true) := ((k67.set 0 (.bool true)).cell 0).trans rfl
    exact bodyPost_ret (v := .bool true) (by simp [results, Tryz.results6, go_sem, hcv]) rfl (HΦ.out _ _ ⟨rfl, (hL1.step hL7).setCell (p := ⟨q, 0, none⟩) (by have := HQ.out; show w.heap.size ≤ q; omega) _⟩)
  · have d1 : decide ((8 : Int) < (n : Int)) = false := decide_eq_false (by omega)
    have d1' : decide (8 < n) = false := decide_eq_false (by omega)
    have d2 : decide ((1000 : Int) < (n2 : Int)) = true := decide_eq_true (by omega)
    have d2' : decide (1000 < n2) = true := decide_eq_true h2
    go_wp2_with (first
      | (go_at_call 9; refine (works_yes _).mono ?_; rintro e w7 ⟨rfl, hL7⟩; have k67 := k6.later hL7; have c67 : w7.cell? ⟨q, 0, none⟩ = some (.bool false) := (k67.cell 0).trans rfl; have f67 : w7.frozen? ⟨q, 0, none⟩ = false := k67.frozen 0)
      | fail)
    have hcv : (w7.setCell ⟨q, 0, none⟩ (.bool true)).cell? ⟨q, 0, none⟩ = some (.bool true) := ((k67.set 0 (.bool true)).cell 0).trans rfl
    exact bodyPost_ret (v := .bool true) (by simp [results, Tryz.results6, go_sem, hcv]) rfl (HΦ.out _ _ ⟨rfl, (hL1.step hL7).setCell (p := ⟨q, 0, none⟩) (by have := HQ.out; show w.heap.size ≤ q; omega) _⟩)
theorem msgsBack_walk (A : Option Addr) (n c : Nat) (ts : List Tell) (A2 : Option Addr) (n2 c2 : Nat) (b : List UInt8) (cut : Int) (wc : (Lit.int .i64 cut).wf = true) (w : World) (ht : InTells w A n c ts) (hi : InBytes w A2 n2 c2 b) :
    Calls Tryz.prog 6 #[.slice A n c, .slice A2 n2 c2, .int .i64 cut] w fun e w' => e = .returned (.bool true) ∧ Below w.heap.size w w' := by
  have h5 : -9223372036854775808 ≤ cut ∧ cut ≤ 9223372036854775807 := by
    simp [Lit.wf, IntKind.min, IntKind.max, IntKind.signed, IntKind.bits] at wc
    omega
  by_cases h : 8 < n ∨ (n ≤ 8 ∧ 1000 < n2)
  · exact msgsBack_out A n c A2 n2 c2 cut w h
  · exact msgsBack_main A n c ts A2 n2 c2 b cut w ht.len (by omega) ht.wf ht.rd hi.len (by omega) hi.cap (by have := hi.most; unfold maxLen at this; omega) hi.rd h5
end Go.Proofs.YtcajhdmppfiaeaaGreat
