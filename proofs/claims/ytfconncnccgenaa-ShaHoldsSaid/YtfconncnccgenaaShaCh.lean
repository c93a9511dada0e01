/- ShaChains: the walk. -/
import Derived.Test.YtfconncnccgenaaShaC
import Derived.Test.YtfconncnccgenaaOpenA
set_option linter.unusedVariables false
set_option linter.unusedSimpArgs false
namespace Go.Proofs.Ytfconncnccgenaa
open Go.RowKit
theorem storeSt {w : World} {g : Nat} {t : TypeId} {cs : Array Value} (x : Sha.St) (hr : Row w g t cs) (hs : cs.size = 8) : ∃ w', (Instr.storeAt 41 (.pointer (some ⟨g, 0, none⟩)) (.agg (stC x 0))).run Try.prog w = .ok () w' ∧ Row w' g t (stC x 0) ∧ w.grownBy w' (some g) :=
  run_put_row (P := Try.prog) (T := 41) hr (by rw [stC_size, hs]) (by rw [stC_size]; exact info8) (stC_one _ _)
theorem byte_xor (a b : UInt8) : bits .xor .u8 (a.toNat : Int) (b.toNat : Int) = ((a ^^^ b).toNat : Int) := by
  rw [u8_xor_nat _ _ a.toNat_lt b.toNat_lt, UInt8.toNat_xor]
theorem map_set8 (B : List UInt8) (k : Nat) (c : UInt8) : (B.map byteV).toArray.setIfInBounds k (byteV c) = ((B.set k c).map byteV).toArray := by
  simp [List.map_set]
theorem last2_stores {P : Program} {Q : Exit → Act → World → Prop} {o y : Oper} {a : Act} {W W1 W2 : World} {t t2 : TypeId} {x z x2 z2 : Operand} {vx vz vx2 vz2 : Value} (ho : o.op = .store t x z) (hod : o.dst = none) (hy : y.op = .store t2 x2 z2) (hyd : y.dst = none) (hx : a.eval x = vx) (hz : a.eval z = vz) (hr : (Instr.storeAt t vx vz).run P W = .ok () W1)
    (hx2 : a.eval x2 = vx2) (hz2 : a.eval z2 = vz2) (hr2 : (Instr.storeAt t2 vx2 vz2).run P W1 = .ok () W2) (h : Q .normal a W2) : LastOk2 P o y a W Q :=
  ⟨op_storeK (K := fun a' W' => y.wp P a' W' (fun a W => Q .normal a W) Q) ho hx hz hr (by
    rw [hod]
    exact op_storeK (K := fun a W => Q .normal a W) hy hx2 hz2 hr2 (by rw [hyd]; exact h))⟩
set_option maxRecDepth 100000 in
set_option maxHeartbeats 4000000 in
theorem shaChains_main (x : Sha.St) (l : List UInt8) (many : Int) (w : World) (hl : l.length = 64) (hm : many ≤ 12) (hm0 : -9223372036854775808 ≤ many) :
    Calls Try.prog 5 #[.agg (stC x 0), .agg (l.map byteV).toArray, .int .i64 many] w fun e w' => e = .returned (.bool true) ∧ Below w.heap.size w w' := by
  have hb1 := run_box_row (P := Try.prog) w 41 (stC x 0) (by rw [stC_size]; exact info8)
  have hb2 := fun w : World => run_box_row (P := Try.prog) w 42 (l.map byteV).toArray (by rw [List.size_toArray, List.length_map, hl]; exact infoB64)
  have hd : decide (12 < many) = false := by simp; omega
  have HL := Lib.hid hl
  clear hl
  go_enter Try.func5, Try.ntmps5
  go_upto_region 3 with (first
    | (with_reducible refine wpList_box rfl 41 (.tmp 0) rfl (.agg (stC x 0)) rfl hb1 ?_)
    | (with_reducible refine wpList_box rfl 42 (.tmp 1) rfl (.agg (l.map byteV).toArray) rfl (hb2 _) ?_)
    | fail)
  obtain ⟨g, hg⟩ : ∃ y, y = w.heap.size := ⟨_, rfl⟩
  have k3 : Row ((w.alloc (.cells (stC x 0) 41)).alloc (.cells (l.map byteV).toArray 42)) g 41 (stC x 0) := (Row.newAt hg.symm).alloc _
  have k4 : Row ((w.alloc (.cells (stC x 0) 41)).alloc (.cells (l.map byteV).toArray 42)) (g + 1) 42 (l.map byteV).toArray := Row.newAt (by simp only [World.size_alloc]; omega)
  have kb : Later w ((w.alloc (.cells (stC x 0) 41)).alloc (.cells (l.map byteV).toArray 42)) := ((Later.refl w).alloc _).alloc _
  have kz : ((w.alloc (.cells (stC x 0) 41)).alloc (.cells (l.map byteV).toArray 42)).heap.size = g + 1 + 1 := by simp only [World.size_alloc]; omega
  rw [← hg]
  have HG := Lib.hid hg
  have KZ := Lib.hid kz
  clear hg hb1 hb2 kz
  generalize (w.alloc (.cells (stC x 0) 41)).alloc (.cells (l.map byteV).toArray 42) = w1 at *
  have hld := run_load_row (P := Try.prog) (T := 41) k3 Try.underlying41 rfl (by rw [stC_size]; exact info8)
  go_upto_region 4 with (first
    | (refine wpList_load rfl 41 (.tmp 3) rfl (.pointer (some ⟨g, 0, none⟩)) rfl hld ?_)
    | (with_reducible refine wpList_alloc rfl 41 rfl (alloc8 _) ?_)
    | (refine wpList_store rfl 41 (.tmp 7) (.tmp 14) rfl (.pointer (some ⟨w1.heap.size, 0, none⟩)) (.agg (stC x 0)) rfl rfl (storeS x _) ?_)
    | fail)
  have k7 := Row.new w1 41 (stC x 0)
  have j3 := k3.alloc (.cells (stC x 0) 41)
  have j4 := k4.alloc (.cells (stC x 0) 41)
  have jb := kb.alloc (.cells (stC x 0) 41)
  rw [KZ.out] at k7 ⊢
  clear k3 k4 kb hld
  generalize w1.alloc (.cells (stC x 0) 41) = w2 at *
  go_wp2_with fail
  go_loopw [8] (fun t wr => ∃ (k : Nat) (X : Sha.St) (B : List UInt8), B.length = 64 ∧ k ≤ many.toNat ∧ t = .int .i64 k ∧ Row wr g 41 (stC X 0) ∧ Row wr (g + 1) 42 (B.map byteV).toArray ∧ Row wr (g + 1 + 1) 41 (stC X 0) ∧ Below w.heap.size w wr) (fun t _ => many.toNat - (intOf t).toNat)
  case atStart => exact ⟨0, x, l, HL.out, by omega, rfl, j3, j4, k7, jb⟩
  case round =>
    obtain ⟨k, X, B, hB, hk, rfl, h3, h4, h7, hb⟩ := hrel
    clear j3 j4 k7 jb
    have HB := Lib.hid hB
    have hbs := hb.size
    have hg4 := h4.lt
    have hg7 := h7.lt
    clear hB
    by_cases hlt : (k : Int) < many
    · go_upto_region 7 with fail
      refine (wpIn_wide (n := 0)).1 ?_
      refine wpIn_region_last2 wide_wide [Pr.eq (.agg (stC X 0)), Pr.eq (.agg (B.map byteV).toArray), Pr.eq (.agg (stC (Sha.blk X B) 0)), Pr.eq (.agg (stC X 0)), Pr.eq (.agg (B.map byteV).toArray), Pr.eq (.agg (stC (Sha.blk X B) 0))] (by kernel_rfl) (by kernel_rfl) (by kernel_rfl) (by kernel_rfl) (by kernel_rfl) (by kernel_rfl) rfl rfl (by kernel_rfl) ⟨?_, ?_, ?_, ?_, ?_, ?_, trivial⟩ ?_
      · exact fun ac W hL he => stepOk_want rfl (op_load rfl (he.keep (.tmp 3) (by kernel_rfl)) (run_load_row (h3.later hL) Try.underlying41 rfl (by rw [stC_size]; exact info8)) rfl)
      · exact fun ac W hL he => stepOk_want rfl (op_load rfl (he.keep (.tmp 4) (by kernel_rfl)) (run_load_row (h4.later hL) Try.underlying42 rfl (by rw [List.size_toArray, List.length_map, HB.out]; exact infoB64)) rfl)
      · intro ac W hL he; refine stepOk_want rfl ?_; have e0 : ac.eval (.tmp 20) = (.agg (stC X 0)) := (he.get 0 20 (by kernel_rfl) rfl); have e1 : ac.eval (.tmp 21) = (.agg (B.map byteV).toArray) := (he.get 1 21 (by kernel_rfl) rfl); exact op_callF (vs := #[.agg (stC X 0), .agg (B.map byteV).toArray]) rfl (by simp only [List.map_toArray, List.map_cons, List.map_nil, e0, e1]) (enters_of Try.func19 (by kernel_rfl) rfl) ((shaPress_any X B W HB.out).mono fun e W' ⟨he', hb⟩ => ⟨_, he', hb, rfl⟩)
      · exact fun ac W hL he => stepOk_want rfl (op_load rfl (he.keep (.tmp 7) (by kernel_rfl)) (run_load_row (h7.later hL) Try.underlying41 rfl (by rw [stC_size]; exact info8)) rfl)
      · exact fun ac W hL he => stepOk_want rfl (op_load rfl (he.keep (.tmp 4) (by kernel_rfl)) (run_load_row (h4.later hL) Try.underlying42 rfl (by rw [List.size_toArray, List.length_map, HB.out]; exact infoB64)) rfl)
      · intro ac W hL he; refine stepOk_want rfl ?_; have e0 : ac.eval (.tmp 23) = (.agg (stC X 0)) := (he.get 3 23 (by kernel_rfl) rfl); have e1 : ac.eval (.tmp 24) = (.agg (B.map byteV).toArray) := (he.get 4 24 (by kernel_rfl) rfl); exact op_callF (vs := #[.agg (stC X 0), .agg (B.map byteV).toArray]) rfl (by simp only [List.map_toArray, List.map_cons, List.map_nil, e0, e1]) (enters_of Try.func20 (by kernel_rfl) rfl) ((refPress_any X B W HB.out).mono fun e W' ⟨he', hb⟩ => ⟨_, he', hb, rfl⟩)
      · intro xs W2 hL hx hk2 hgt
        have e1 := hgt 2 22 (by decide) (by kernel_rfl)
        have e2 := hgt 5 25 (by decide) (by kernel_rfl)
        have e3 : _ = Value.pointer (some ⟨g, 0, none⟩) := hk2 (.tmp 3) (by kernel_rfl)
        have e7 : _ = Value.pointer (some ⟨g + 1 + 1, 0, none⟩) := hk2 (.tmp 7) (by kernel_rfl)
        have v1 : xs 2 = .agg (stC (Sha.blk X B) 0) := hx 2 (by decide)
        have v2 : xs 5 = .agg (stC (Sha.blk X B) 0) := hx 5 (by decide)
        rw [v1] at e1
        rw [v2] at e2
        obtain ⟨W3, hst3, q3, hg3⟩ := storeSt (Sha.blk X B) (h3.later hL) (stC_size _ _)
        have p7 := (h7.later hL).grown hg3 (by intro e; injection e with e; omega)
        obtain ⟨W4, hst4, q7, hg4'⟩ := storeSt (Sha.blk X B) p7 (stC_size _ _)
        have q3' := q3.grown hg4' (by intro e; injection e with e; omega)
        have q4 := ((h4.later hL).grown hg3 (by intro e; injection e with e; omega)).grown hg4' (by intro e; injection e with e; omega)
        have qb3 := (hb.trans (hL.mono hbs)).grown hg3 (by have := hL.size; omega) (fun j e => by cases e; have := HG.out; omega)
        have qb := qb3.grown hg4' qb3.size (fun j e => by cases e; have := HG.out; omega)
        refine last2_stores rfl rfl rfl rfl e3 e1 hst3 e7 e2 hst4 ?_
        clear hx hk2 hgt e1 e2 e3 e7 v1 v2 hst3 hst4 q3 p7 qb3 hg3 hg4'
        simp only [init2, putL, Nat.reduceAdd, Act.put, List.setIfInBounds_toArray, List.set_cons_succ, List.set_cons_zero]
        clear h3 h4 h7 hb hbs hg4 hg7 hL
        generalize Sha.blk X B = Y at *
        obtain ⟨hh, hhe⟩ : ∃ y, y = Sha.toldSt Y := ⟨_, rfl⟩
        have hhl : hh.length = 32 := by rw [hhe]; exact Sha.toldSt_len _
        have ht := fun W => refTold_any Y W
        rw [← hhe] at ht
        have ld3 := run_load_row (P := Try.prog) (T := 41) q3' Try.underlying41 rfl (by rw [stC_size]; exact info8)
        have ld7 := run_load_row (P := Try.prog) (T := 41) q7 Try.underlying41 rfl (by rw [stC_size]; exact info8)
        have HHL := Lib.hid hhl
        clear hhe hhl
        generalize W4 = wr4 at *
        go_upto_region 11 with (first
          | (refine wpList_load rfl 41 (.tmp 3) rfl (.pointer (some ⟨g, 0, none⟩)) rfl ld3 ?_)
          | (refine wpList_load rfl 41 (.tmp 7) rfl (.pointer (some ⟨g + 1 + 1, 0, none⟩)) rfl ld7 ?_)
          | (refine wpList_binop rfl .neq 41 41 (.tmp 26) (.tmp 27) rfl (.agg (stC Y 0)) (.agg (stC Y 0)) rfl rfl (eqgSt _ _ _ _ _ _) (neqSt Y _) ?_)
          | (go_at_call 21; refine (ht _).mono ?_; clear ht; rintro e w5 ⟨rfl, hb5⟩; obtain ⟨w6, hst6, hr6, hg6⟩ := storeH (a := []) (b := hh) (by simp) (by rw [HHL.out]; omega) (Row.new w5 26 (hC [])))
          | (with_reducible refine wpList_alloc rfl 26 rfl (allocH _) ?_)
          | (refine wpList_store rfl 26 (.tmp 9) (.tmp 30) rfl (.pointer (some ⟨w5.heap.size, 0, none⟩)) (.agg (hC hh)) rfl rfl hst6 ?_)
          | fail)
        obtain ⟨g9, hg9⟩ : ∃ y, y = w5.heap.size := ⟨_, rfl⟩
        rw [← hg9] at hr6 hg6 ⊢
        have a3 := q3'.belowAll hb5
        have a4 := q4.belowAll hb5
        have a7 := q7.belowAll hb5
        have lt3 := a3.lt
        have lt4 := a4.lt
        have lt7 := a7.lt
        have ab := qb.trans (hb5.mono qb.size)
        have hge : w.heap.size ≤ g9 := by have := ab.size; omega
        have b3 := (a3.alloc (.cells (hC []) 26)).grown hg6 (by intro e; injection e with e; omega)
        have b4 := (a4.alloc (.cells (hC []) 26)).grown hg6 (by intro e; injection e with e; omega)
        have b7 := (a7.alloc (.cells (hC []) 26)).grown hg6 (by intro e; injection e with e; omega)
        have bb := (ab.alloc ab.size (.cells (hC []) 26)).grown hg6 (by simp only [World.size_alloc]; omega) (fun j e => by cases e; exact hge)
        have hne4 : g9 ≠ g + 1 := by omega
        clear a3 a4 a7 ab lt3 lt4 lt7 hb5 hg6 hg9 q3' q4 q7 qb ld3 ld7 hst6
        go_wp2_with fail
        go_loopw [10] (fun t wr => ∃ (j : Nat) (C : List UInt8), C.length = 64 ∧ j ≤ 64 ∧ t = .int .i64 j ∧ Row wr g 41 (stC Y 0) ∧ Row wr (g + 1) 42 (C.map byteV).toArray ∧ Row wr (g + 1 + 1) 41 (stC Y 0) ∧ Row wr g9 26 (hC hh) ∧ Below w.heap.size w wr) (fun t _ => 64 - (intOf t).toNat)
        case atStart => exact ⟨0, B, HB.out, by omega, rfl, b3, b4, b7, hr6, bb⟩
        case round =>
          obtain ⟨j, C, hC64, hj, rfl, c3, c4, c7, c9, cb⟩ := hrel
          clear b3 b4 b7 hr6 bb
          have HC64 := Lib.hid hC64
          clear hC64
          by_cases hjt : j < 64
          · have hjl : j < C.length := by rw [HC64.out]; exact hjt
            have d4 := (c4.cell j).trans (bytes_get C j hjl)
            have f4 := c4.frozen j
            have hset := fun c => map_set8 C j c
            have hmi : (j + k) % 32 < hh.length := by rw [HHL.out]; omega
            have d9 := (c9.cell ((j + k) % 32)).trans (hC_get hh ((j + k) % 32) hmi (by rw [HHL.out]; omega))
            generalize C[j] = cj at *
            generalize hh[(j + k) % 32] = hj2 at *
            have m0 : IntKind.i64.wrap ((j : Int) + (k : Int)) = (j : Int) + (k : Int) := IntWalk.i64_in _ (by omega)
            have n0 : (((j : Int) + (k : Int)) % 32).toNat = (j + k) % 32 := by omega
            have t0 : ((j : Int) + (k : Int)).tmod 32 = ((j : Int) + (k : Int)) % 32 := Int.tmod_eq_emod_of_nonneg (by omega)
            have u0 : ((j : Int) + (k : Int)) % 32 < 32 := by omega
            have v0 : 0 ≤ ((j : Int) + (k : Int)) % 32 := by omega
            have HS := Lib.hid hset
            clear hset hmi
            go_wp2_with fail
            refine wp_region_still_tail 12 (by kernel_rfl) (by kernel_rfl) ?_
            simp only [List.take_succ_cons, List.take_zero, List.drop_succ_cons, List.drop_zero]
            repeat still_step
            refine wpStill_nil ?_
            change wpList _ _ _ _ _ wr.drew
            rw [byte_xor]
            clear m0 n0 t0 u0 v0 d9
            generalize cj ^^^ hj2 = cx at *
            go_wp2_with fail
            go_roundw
            case rel => exact ⟨j + 1, C.set j cx, by rw [List.length_set]; exact HC64.out, by omega, by go_num, c3.drew.far (by simp) _, by rw [← HS.out]; exact c4.drew.set _ _, c7.drew.far (by simp) _, c9.drew.far (by simpa using hne4) _, cb.drew.setCell (by have := HG.out; simp; omega) _⟩
            case measure => simp [intOf]; omega
          · obtain rfl : j = 64 := by omega
            go_wp2_with fail
            go_roundw
            case rel => exact ⟨k + 1, Y, C, HC64.out, by omega, by go_num, c3, c4, c7, cb⟩
            case measure => simp [intOf]; omega
    · have hbw := hb
      go_wp2_with (first | (go_at_call 9; refine (works_yes _).mono ?_; rintro e w9 ⟨rfl, hb9⟩) | fail)
      go_ret
      exact ⟨rfl, hbw.trans (hb9.mono hbs)⟩
theorem shaChains_out (x : Sha.St) (l : List UInt8) (many : Int) (w : World) (hl : l.length = 64) (hm : 12 < many) :
    Calls Try.prog 5 #[.agg (stC x 0), .agg (l.map byteV).toArray, .int .i64 many] w fun e w' => e = .returned (.bool true) ∧ Below w.heap.size w w' := by
  have hb1 := run_box_row (P := Try.prog) w 41 (stC x 0) (by rw [stC_size]; exact info8)
  have hb2 := fun w : World => run_box_row (P := Try.prog) w 42 (l.map byteV).toArray (by rw [List.size_toArray, List.length_map, hl]; exact infoB64)
  have hd : decide (12 < many) = true := by simpa using hm
  have kb : Later w ((w.alloc (.cells (stC x 0) 41)).alloc (.cells (l.map byteV).toArray 42)) := ((Later.refl w).alloc _).alloc _
  go_enter Try.func5, Try.ntmps5
  go_wp2_with (first
    | (with_reducible refine wpList_box rfl 41 (.tmp 0) rfl (.agg (stC x 0)) rfl hb1 ?_)
    | (with_reducible refine wpList_box rfl 42 (.tmp 1) rfl (.agg (l.map byteV).toArray) rfl (hb2 _) ?_)
    | (go_at_call 9; refine (works_yes _).mono ?_; rintro e w9 ⟨rfl, hb9⟩)
    | fail)
  go_ret
  exact ⟨rfl, kb.call hb9⟩
theorem shaChains_walk (x : Sha.St) (l : List UInt8) (hl : l.length = 64) (many : Int) (w2 : (Lit.int .i64 many).wf = true) (w : World) :
    Calls Try.prog 5 #[.agg (stC x 0), .agg (l.map byteV).toArray, .int .i64 many] w fun e w' => e = .returned (.bool true) ∧ Below w.heap.size w w' := by
  have hb : -9223372036854775808 ≤ many := by
    simp [Lit.wf, IntKind.min, IntKind.max, IntKind.signed, IntKind.bits] at w2
    omega
  by_cases h : 12 < many
  · exact shaChains_out x l many w hl h
  · exact shaChains_main x l many w hl (by omega) hb
end Go.Proofs.Ytfconncnccgenaa
