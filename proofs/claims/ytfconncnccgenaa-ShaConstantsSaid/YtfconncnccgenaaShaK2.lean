/- Walks: whether 32 bits are those of a root. -/
import Derived.Test.YtfconncnccgenaaShaK1
import Derived.Deep.DeepCutAuto
set_option linter.unusedVariables false
set_option linter.unusedSimpArgs false
namespace Go.Proofs.Ytfconncnccgenaa
open Go.RowKit
theorem limit_ok (p power : Nat) : (Root.limit p power).ok := by unfold Root.limit; split <;> exact Root.times_ok _ _
theorem pow_ok (k n : Nat) : (Root.powT k n).ok := by
  cases k with
  | zero => exact (show Root.T3.ok ⟨1, 0, 0⟩ from ⟨by decide, by decide, by decide⟩)
  | succ k => exact Root.times_ok _ _
theorem b010 (w : World) : (Instr.build 95 #[(0, .int .u64 0), (1, .int .u64 1), (2, .int .u64 0)]).run Try.prog w = .ok (.agg (c3 ⟨0, 1, 0⟩)) w := by kernel_rfl
theorem b0x0 (w : World) : (Instr.build 95 #[(0, .int .u64 0), (1, .int .u64 4294967296), (2, .int .u64 0)]).run Try.prog w = .ok (.agg (c3 ⟨0, 4294967296, 0⟩)) w := by kernel_rfl
theorem b100 (w : World) : (Instr.build 95 #[(0, .int .u64 1), (1, .int .u64 0), (2, .int .u64 0)]).run Try.prog w = .ok (.agg (c3 ⟨1, 0, 0⟩)) w := by kernel_rfl
theorem store3r {w : World} {g : Nat} {cs : Array Value} (a : Root.T3) (hr : Row w g 95 cs) (hs : cs.size = 3) : ∃ w', (Instr.storeAt 95 (.pointer (some ⟨g, 0, none⟩)) (.agg (c3 a))).run Try.prog w = .ok () w' ∧ Row w' g 95 (c3 a) ∧ w.grownBy w' (some g) :=
  run_put_row (P := Try.prog) (T := 95) hr (by rw [hs]; rfl) info3r (c3_one _)
theorem add1_u64 (n : Nat) (h : n + 1 < 18446744073709551616) (W : World) : (binOp .add 78 (.int .u64 (n : Int)) (.int .u64 1)).run Try.prog W = .ok (.int .u64 ((n + 1 : Nat) : Int)) W := by
  have h1 : (binOp .add 78 (.int .u64 (n : Int)) (.int .u64 1)).run Try.prog W = .ok (.int .u64 (IntKind.u64.wrap ((n : Int) + 1))) W := by kernel_rfl
  have h2 := wrap64_small (x := n) (y := 1) h
  rw [h1]
  exact congrArg (fun z => Result.ok (Value.int .u64 z) W) h2
theorem two_stores {P : Program} {Q : Exit → Act → World → Prop} {o y : Oper} {a : Act} {W W1 W2 : World} {t t2 : TypeId} {x z x2 z2 : Operand} {vx vz vx2 vz2 : Value} (ho : o.op = .store t x z) (hod : o.dst = none) (hy : y.op = .store t2 x2 z2) (hyd : y.dst = none) (hx : a.eval x = vx) (hz : a.eval z = vz) (hr : (Instr.storeAt t vx vz).run P W = .ok () W1)
    (hx2 : a.eval x2 = vx2) (hz2 : a.eval z2 = vz2) (hr2 : (Instr.storeAt t2 vx2 vz2).run P W1 = .ok () W2) (h : Q .normal a W2) : LastOk2 P o y a W Q :=
  ⟨op_storeK (K := fun a' W' => y.wp P a' W' (fun a W => Q .normal a W) Q) ho hx hz hr (by
    rw [hod]
    exact op_storeK (K := fun a W => Q .normal a W) hy hx2 hz2 hr2 (by rw [hyd]; exact h))⟩
set_option maxRecDepth 100000 in
set_option maxHeartbeats 4000000 in
theorem behind_2 (x : BitVec 32) (p : Nat) (w : World) (hp : p < 1000000) :
    Calls Try.prog 46 #[.int .u32 (x.toNat : Int), .int .u64 (p : Int), .int .i64 2] w fun e w' => e = .returned (.bool (Root.behind x.toNat p 2)) ∧ Below w.heap.size w w' := by
  have hx := x.isLt
  obtain ⟨word, hword⟩ : ∃ y, x.toNat = y := ⟨_, rfl⟩
  rw [hword] at hx ⊢
  clear hword
  obtain ⟨lz, hlz⟩ : ∃ y, y = Root.times ⟨0, 1, 0⟩ p := ⟨_, rfl⟩
  obtain ⟨lm, hlm⟩ : ∃ y, y = Root.limit p 2 := ⟨_, rfl⟩
  have ht1 := fun w => times_any ⟨0, 1, 0⟩ p w ⟨by decide, by decide, by decide⟩ (by omega)
  rw [← hlz] at ht1
  have HT1 := Lib.hid ht1
  have hl2 : lm = lz := by rw [hlm, hlz]; rfl
  have HLM := Lib.hid hlm
  clear ht1 hlz hlm
  go_enter Try.func46, Try.ntmps46
  go_upto_region 4 with (first
    | (refine wpList_buildC rfl 95 _ rfl #[(0, .int .u64 0), (1, .int .u64 1), (2, .int .u64 0)] (by rfl) (b010 _) ?_)
    | (go_at_call 55; refine (HT1.out _).mono ?_; clear HT1; rintro e w3 ⟨rfl, hb3⟩; obtain ⟨w4, hst, hr4, hg4⟩ := store3r lz (Row.new w3 95 z3) rfl)
    | (with_reducible refine wpList_alloc rfl 95 rfl (alloc3r _) ?_)
    | (refine wpList_store rfl 95 (.tmp 7) (.tmp 15) rfl (.pointer (some ⟨w3.heap.size, 0, none⟩)) (.agg (c3 lz)) rfl rfl hst ?_)
    | fail)
  obtain ⟨g7, hg7⟩ : ∃ y, y = w3.heap.size := ⟨_, rfl⟩
  rw [← hg7] at hr4 hg4 ⊢
  have hw7 : w.heap.size ≤ g7 := by have := hb3.size; omega
  have hL4 : Later w w4 := Below.grown (((Later.refl w).call hb3).alloc _) hg4 (by have := hb3.size; simp only [World.size_alloc]; omega) (fun j e => by cases e; exact hw7)
  have hLL := hL4
  have hrL : Row w4 g7 95 (c3 lm) := by rw [hl2]; exact hr4
  have HW7 := Lib.hid hw7
  clear hl2 hr4 hL4 hw7
  clear hb3 hst hg4 hg7
  have hbd : Root.behind word p 2 = Root.from_ word p 2 17 1 := rfl
  obtain ⟨R, hR⟩ : ∃ y, Root.behind word p 2 = y := ⟨_, rfl⟩
  rw [hR] at hbd
  have HR := Lib.hid hR
  have HBD := Lib.hid hbd
  clear hR hbd
  go_wp2_with fail
  go_loopw [8] (fun t wr => ∃ f k : Nat, k + f = 18 ∧ 1 ≤ k ∧ t = .int .u64 k ∧ R = Root.from_ word p 2 f k ∧ Row wr g7 95 (c3 lm) ∧ Later w wr) (fun t _ => 18 - (intOf t).toNat)
  case atStart => exact ⟨17, 1, rfl, Nat.le_refl _, rfl, HBD.out.symm ▸ rfl, hrL, hLL⟩
  case round =>
    obtain ⟨f, k, hkf, hk1, rfl, hRf, h7, hL⟩ := hrel
    clear hrL hLL
    by_cases hlt : k < 18
    · obtain ⟨f', rfl⟩ : ∃ f', f = f' + 1 := ⟨f - 1, by omega⟩
      have hRf' : R = (Root.hit word p 2 k || Root.from_ word p 2 f' (k + 1)) := hRf
      obtain ⟨n, hn⟩ : ∃ y, y = k * 4294967296 + word := ⟨_, rfl⟩
      have hni : (k : Int) * 4294967296 + (word : Int) = (n : Int) := by omega
      have hn1 : n + 1 < 18446744073709551616 := by omega
      have hit : Root.hit word p 2 k = (Root.atMost (Root.powT 2 n) lm && !Root.atMost (Root.powT 2 (n + 1)) lm) := by
        unfold Root.hit
        rw [hn, HLM.out]
      have HIT := Lib.hid hit
      have HRF := Lib.hid hRf'
      have HADD := Lib.hid (add1_u64 n hn1)
      have HN1 := Lib.hid hn1
      clear hn1 hRf hRf' hit hn
      go_upto_region 8 with fail
      obtain ⟨g10, hg10⟩ : ∃ y, y = wr.heap.size := ⟨_, rfl⟩
      have r10 : Row ((wr.alloc (.cells z3 95)).alloc (.cells z3 95)) g10 95 z3 := (Row.newAt hg10.symm).alloc _
      have r11 : Row ((wr.alloc (.cells z3 95)).alloc (.cells z3 95)) (g10 + 1) 95 z3 := Row.newAt (by simp only [World.size_alloc]; omega)
      have r7 := (h7.alloc (.cells z3 95)).alloc (.cells z3 95)
      have rL := (hL.alloc (.cells z3 95)).alloc (.cells z3 95)
      have h7l := h7.lt
      have hLs := hL.size
      obtain ⟨wB, hstB, rB10, gB⟩ := store3r ⟨1, 0, 0⟩ r10 rfl
      have rB11 := r11.grown gB (by intro e; injection e with e; omega)
      have rB7 := r7.grown gB (by intro e; injection e with e; omega)
      have rBL : Later w wB := Below.grown rL gB rL.size (fun j e => by cases e; omega)
      have cB0 : wB.cell? ⟨g10 + 1, 0, none⟩ = some (.int .u64 0) := rB11.cell 0
      have cB1 : wB.cell? ⟨g10 + 1, 1, none⟩ = some (.int .u64 0) := rB11.cell 1
      have cB2 : wB.cell? ⟨g10 + 1, 2, none⟩ = some (.int .u64 0) := rB11.cell 2
      have fB0 := rB11.frozen 0
      have fB1 := rB11.frozen 1
      have fB2 := rB11.frozen 2
      have hwg : w.heap.size ≤ g10 := by omega
      have h710 : g7 ≠ g10 := by omega
      have h711 : g7 ≠ g10 + 1 := by omega
      rw [hg10] at hstB cB0 cB1 cB2 fB0 fB1 fB2
      have HSB := Lib.hid hstB
      have HG10 := Lib.hid hg10
      clear hstB hg10
      clear r10 r11 r7 rL h7l hLs gB h7 hL
      go_upto_region 9 with (first
        | (refine wpList_buildC rfl 95 _ rfl #[(0, .int .u64 1), (1, .int .u64 0), (2, .int .u64 0)] (by rfl) (b100 _) ?_)
        | (with_reducible refine wpList_alloc rfl 95 rfl (alloc3r _) ?_)
        | (refine wpList_store rfl 95 (.tmp 10) (.tmp 30) rfl (.pointer (some ⟨wr.heap.size, 0, none⟩)) (.agg #[.int .u64 1, .int .u64 0, .int .u64 0]) rfl rfl HSB.out ?_)
        | fail)
      rw [← HG10.out]
      clear HSB cB0 cB1 cB2 fB0 fB1 fB2
      have rC10 := ((rB10.far (p := ⟨g10 + 1, 0, none⟩) (by simp) (.int .u64 1)).far (p := ⟨g10 + 1, 1, none⟩) (by simp) (.int .u64 0)).far (p := ⟨g10 + 1, 2, none⟩) (by simp) (.int .u64 0)
      have rC7 := ((rB7.far (p := ⟨g10 + 1, 0, none⟩) h711 (.int .u64 1)).far (p := ⟨g10 + 1, 1, none⟩) h711 (.int .u64 0)).far (p := ⟨g10 + 1, 2, none⟩) h711 (.int .u64 0)
      have rC11 : Row (((wB.setCell ⟨g10 + 1, 0, none⟩ (.int .u64 1)).setCell ⟨g10 + 1, 1, none⟩ (.int .u64 0)).setCell ⟨g10 + 1, 2, none⟩ (.int .u64 0)) (g10 + 1) 95 (c3 ⟨1, 0, 0⟩) := ((rB11.set 0 (.int .u64 1)).set 1 (.int .u64 0)).set 2 (.int .u64 0)
      have rCL : Later w (((wB.setCell ⟨g10 + 1, 0, none⟩ (.int .u64 1)).setCell ⟨g10 + 1, 1, none⟩ (.int .u64 0)).setCell ⟨g10 + 1, 2, none⟩ (.int .u64 0)) := Below.setCell (Below.setCell (Below.setCell rBL (p := ⟨g10 + 1, 0, none⟩) (Nat.le_succ_of_le hwg) _) (p := ⟨g10 + 1, 1, none⟩) (Nat.le_succ_of_le hwg) _) (p := ⟨g10 + 1, 2, none⟩) (Nat.le_succ_of_le hwg) _
      clear rB10 rB7 rB11 rBL
      generalize ((wB.setCell ⟨g10 + 1, 0, none⟩ (.int .u64 1)).setCell ⟨g10 + 1, 1, none⟩ (.int .u64 0)).setCell ⟨g10 + 1, 2, none⟩ (.int .u64 0) = wC at *
      go_wp2_with fail
      go_loopw [12] (fun t wr => ∃ i : Nat, i ≤ 2 ∧ t = .int .i64 i ∧ Row wr g10 95 (c3 (Root.powT i n)) ∧ Row wr (g10 + 1) 95 (c3 (Root.powT i (n + 1))) ∧ Row wr g7 95 (c3 lm) ∧ Later w wr) (fun t _ => 2 - (intOf t).toNat)
      case atStart => exact ⟨0, by omega, rfl, rC10, rC11, rC7, rCL⟩
      case round =>
        obtain ⟨i, hi, rfl, c10, c11, c7, cL⟩ := hrel
        clear rC10 rC11 rC7 rCL
        by_cases hilt : i < 2
        · have hp1 : Root.powT (i + 1) n = Root.times (Root.powT i n) n := rfl
          have hp2 : Root.powT (i + 1) (n + 1) = Root.times (Root.powT i (n + 1)) (n + 1) := rfl
          have ht1 := fun W => times_any (Root.powT i n) n W (pow_ok _ _) (by have := HN1.out; omega)
          have ht2 := fun W => times_any (Root.powT i (n + 1)) (n + 1) W (pow_ok _ _) HN1.out
          have HP1 := Lib.hid hp1
          have HP2 := Lib.hid hp2
          clear hp1 hp2
          generalize Root.powT i n = lo at *
          generalize Root.powT i (n + 1) = hi2 at *
          have HT1 := Lib.hid ht1
          have HT2 := Lib.hid ht2
          clear ht1 ht2
          have c10l := c10.lt
          go_upto_region 12 with fail
          refine (wpIn_wide (n := 0)).1 ?_
          refine wpIn_region_last2 wide_wide [Pr.eq (.agg (c3 lo)), Pr.eq (.int .u64 (n : Int)), Pr.eq (.agg (c3 (Root.times lo n))), Pr.eq (.agg (c3 hi2)), Pr.eq (.int .u64 (n : Int)), Pr.eq (.int .u64 ((n + 1 : Nat) : Int)), Pr.eq (.agg (c3 (Root.times hi2 (n + 1))))] (by kernel_rfl) (by kernel_rfl) (by kernel_rfl) (by kernel_rfl) (by kernel_rfl) (by kernel_rfl) rfl rfl (by kernel_rfl) ⟨?_, ?_, ?_, ?_, ?_, ?_, ?_, trivial⟩ ?_
          · exact fun ac W hL he => stepOk_want rfl (op_load rfl (he.keep (.tmp 10) (by kernel_rfl)) (run_load_row (c10.later hL) Try.underlying95 rfl info3r) rfl)
          · exact fun ac W hL he => stepOk_want rfl (op_move rfl (he.keep (.tmp 9) (by kernel_rfl)))
          · intro ac W hL he; refine stepOk_want rfl ?_; have e0 : ac.eval (.tmp 37) = (.agg (c3 lo)) := (he.get 0 37 (by kernel_rfl) rfl); have e1 : ac.eval (.tmp 38) = (.int .u64 (n : Int)) := (he.get 1 38 (by kernel_rfl) rfl); exact op_callF (vs := #[.agg (c3 lo), .int .u64 ((n : Int))]) rfl (by simp only [List.map_toArray, List.map_cons, List.map_nil, e0, e1]) (enters_of Try.func55 (by kernel_rfl) rfl) ((HT1.out W).mono fun e W' ⟨he', hb⟩ => ⟨_, he', hb, rfl⟩)
          · exact fun ac W hL he => stepOk_want rfl (op_load rfl (he.keep (.tmp 11) (by kernel_rfl)) (run_load_row (c11.later hL) Try.underlying95 rfl info3r) rfl)
          · exact fun ac W hL he => stepOk_want rfl (op_move rfl (he.keep (.tmp 9) (by kernel_rfl)))
          · exact fun ac W hL he => stepOk_want rfl (op_binOp rfl (he.get 4 41 (by kernel_rfl) rfl) rfl eqg_add (HADD.out W) rfl)
          · intro ac W hL he; refine stepOk_want rfl ?_; have e0 : ac.eval (.tmp 40) = (.agg (c3 hi2)) := (he.get 3 40 (by kernel_rfl) rfl); have e1 : ac.eval (.tmp 42) = (.int .u64 ((n + 1 : Nat) : Int)) := (he.get 5 42 (by kernel_rfl) rfl); exact op_callF (vs := #[.agg (c3 hi2), .int .u64 (((n + 1 : Nat) : Int))]) rfl (by simp only [List.map_toArray, List.map_cons, List.map_nil, e0, e1]) (enters_of Try.func55 (by kernel_rfl) rfl) ((HT2.out W).mono fun e W' ⟨he', hb⟩ => ⟨_, he', hb, rfl⟩)
          · intro xs W2 hL hx hk2 hgt
            have e1 := hgt 2 39 (by decide) (by kernel_rfl)
            have e2 := hgt 6 43 (by decide) (by kernel_rfl)
            have e3 : _ = Value.pointer (some ⟨g10, 0, none⟩) := hk2 (.tmp 10) (by kernel_rfl)
            have e4 : _ = Value.pointer (some ⟨g10 + 1, 0, none⟩) := hk2 (.tmp 11) (by kernel_rfl)
            have v1 : xs 2 = .agg (c3 (Root.times lo n)) := hx 2 (by decide)
            have v2 : xs 6 = .agg (c3 (Root.times hi2 (n + 1))) := hx 6 (by decide)
            rw [v1] at e1
            rw [v2] at e2
            obtain ⟨W3, hst3, q10, hg3⟩ := store3r (Root.times lo n) (c10.later hL) rfl
            have p11 := (c11.later hL).grown hg3 (by intro e; injection e with e; omega)
            obtain ⟨W4, hst4, q11, hg4⟩ := store3r (Root.times hi2 (n + 1)) p11 rfl
            have q10' := q10.grown hg4 (by intro e; injection e with e; omega)
            have q7 := ((c7.later hL).grown hg3 (fun e => h710 (by injection e))).grown hg4 (fun e => h711 (by injection e))
            have qL3 : Later w W3 := Below.grown (cL.step hL) hg3 (cL.step hL).size (fun j e => by cases e; exact hwg)
            have qL : Later w W4 := Below.grown qL3 hg4 qL3.size (fun j e => by cases e; omega)
            refine two_stores rfl rfl rfl rfl e3 e1 hst3 e4 e2 hst4 ?_
            clear hx hk2 hgt e1 e2 e3 e4 v1 v2 hst3 hst4 q10 p11 qL3 hg3 hg4 hL
            simp only [init2, putL, Nat.reduceAdd, Act.put, List.setIfInBounds_toArray, List.set_cons_succ, List.set_cons_zero]
            go_wp2_with fail
            go_roundw
            case rel => exact ⟨i + 1, by omega, by go_num, by rw [HP1.out]; exact q10', by rw [HP2.out]; exact q11, q7, qL⟩
            case measure => simp [intOf]; omega
        · obtain rfl : i = 2 := by omega
          have ld10 := run_load_row (P := Try.prog) (T := 95) c10 Try.underlying95 rfl info3r
          have ld7 := run_load_row (P := Try.prog) (T := 95) c7 Try.underlying95 rfl info3r
          have am1 := fun W => atMost_any (Root.powT 2 n) lm W
          have am2 := fun W => atMost_any (Root.powT 2 (n + 1)) lm W
          have hit := HIT.out
          generalize Root.powT 2 n = lo at *
          generalize Root.powT 2 (n + 1) = hi2 at *
          obtain ⟨b1, hb1⟩ : ∃ y, Root.atMost lo lm = y := ⟨_, rfl⟩
          obtain ⟨b2, hb2⟩ : ∃ y, Root.atMost hi2 lm = y := ⟨_, rfl⟩
          rw [hb1] at am1
          rw [hb2] at am2
          have hRR := HRF.out
          rw [hit, hb1, hb2] at hRR
          have HRR := Lib.hid hRR
          have AM1 := Lib.hid am1
          have AM2 := Lib.hid am2
          clear hRR hit hb1 hb2 am1 am2 HIT HRF hi
          cases b1
          · go_wp2_with (first
              | (refine wpList_load rfl 95 (.tmp 10) rfl (.pointer (some ⟨g10, 0, none⟩)) rfl ld10 ?_)
              | (refine wpList_load rfl 95 (.tmp 7) rfl (.pointer (some ⟨g7, 0, none⟩)) rfl ld7 ?_)
              | (go_at_call 56; refine (AM1.out _).mono ?_; clear AM1; rintro e w8 ⟨rfl, hb8⟩; have x7 := c7.belowAll hb8; have xL := cL.call hb8)
              | fail)
            go_roundw
            case rel => exact ⟨f', k + 1, by omega, by omega, by go_num, by rw [HRR.out]; simp, x7, xL⟩
            case measure => simp [intOf]; omega
          · cases b2
            all_goals
              go_wp2_with (first
                | (refine wpList_load rfl 95 (.tmp 10) rfl (.pointer (some ⟨g10, 0, none⟩)) rfl ld10 ?_)
                | (refine wpList_load rfl 95 (.tmp 7) rfl (.pointer (some ⟨g7, 0, none⟩)) rfl ld7 ?_)
                | (go_at_call 56; refine (AM1.out _).mono ?_; clear AM1; rintro e w8 ⟨rfl, hb8⟩; have x7 := c7.belowAll hb8; have x11 := c11.belowAll hb8; have xL := cL.call hb8; have ld11' := run_load_row (P := Try.prog) (T := 95) x11 Try.underlying95 rfl info3r; have ld7' := run_load_row (P := Try.prog) (T := 95) x7 Try.underlying95 rfl info3r)
                | (refine wpList_loadG (by rfl) 95 (.tmp 11) rfl (.pointer (some ⟨g10 + 1, 0, none⟩)) rfl ld11' ?_)
                | (refine wpList_loadG (by rfl) 95 (.tmp 7) rfl (.pointer (some ⟨g7, 0, none⟩)) rfl ld7' ?_)
                | (go_at_call 56; refine (AM2.out _).mono ?_; clear AM2; rintro e w9 ⟨rfl, hb9⟩; have y7 := x7.belowAll hb9; have yL := xL.call hb9)
                | fail)
            · go_ret
              exact ⟨by rw [HR.out, HRR.out]; rfl, yL⟩
            · go_roundw
              case rel => exact ⟨f', k + 1, by omega, by omega, by go_num, by rw [HRR.out]; simp, y7, yL⟩
              case measure => simp [intOf]; omega
    · obtain rfl : k = 18 := by omega
      obtain rfl : f = 0 := by omega
      have hRf' : R = false := hRf
      have HRF := Lib.hid hRf'
      clear hRf hRf'
      go_wp2_with fail
      go_ret
      exact ⟨by rw [HR.out, HRF.out]; rfl, hL⟩
set_option maxRecDepth 100000 in
set_option maxHeartbeats 4000000 in
theorem behind_3 (x : BitVec 32) (p : Nat) (w : World) (hp : p < 1000000) :
    Calls Try.prog 46 #[.int .u32 (x.toNat : Int), .int .u64 (p : Int), .int .i64 3] w fun e w' => e = .returned (.bool (Root.behind x.toNat p 3)) ∧ Below w.heap.size w w' := by
  have hx := x.isLt
  obtain ⟨word, hword⟩ : ∃ y, x.toNat = y := ⟨_, rfl⟩
  rw [hword] at hx ⊢
  clear hword
  obtain ⟨lz, hlz⟩ : ∃ y, y = Root.times ⟨0, 1, 0⟩ p := ⟨_, rfl⟩
  obtain ⟨lm, hlm⟩ : ∃ y, y = Root.limit p 3 := ⟨_, rfl⟩
  have ht1 := fun w => times_any ⟨0, 1, 0⟩ p w ⟨by decide, by decide, by decide⟩ (by omega)
  rw [← hlz] at ht1
  have HT1 := Lib.hid ht1
  have ht2 := fun w => times_any ⟨0, 4294967296, 0⟩ p w ⟨by decide, by decide, by decide⟩ (by omega)
  have hl2 : Root.times ⟨0, 4294967296, 0⟩ p = lm := by rw [hlm]; rfl
  rw [hl2] at ht2
  have HT2 := Lib.hid ht2
  clear ht2 hl2
  have HLM := Lib.hid hlm
  clear ht1 hlz hlm
  go_enter Try.func46, Try.ntmps46
  go_upto_region 4 with (first
    | (refine wpList_buildC rfl 95 _ rfl #[(0, .int .u64 0), (1, .int .u64 1), (2, .int .u64 0)] (by rfl) (b010 _) ?_)
    | (refine wpList_buildC rfl 95 _ rfl #[(0, .int .u64 0), (1, .int .u64 4294967296), (2, .int .u64 0)] (by rfl) (b0x0 _) ?_)
    | (go_at_call 55; refine (HT1.out _).mono ?_; clear HT1; rintro e w3 ⟨rfl, hb3⟩; obtain ⟨w4, hst, hr4, hg4⟩ := store3r lz (Row.new w3 95 z3) rfl)
    | (with_reducible refine wpList_alloc rfl 95 rfl (alloc3r _) ?_)
    | (refine wpList_store rfl 95 (.tmp 7) (.tmp 15) rfl (.pointer (some ⟨w3.heap.size, 0, none⟩)) (.agg (c3 lz)) rfl rfl hst ?_)
    | (go_at_call 55; refine (HT2.out _).mono ?_; rintro e w5 ⟨rfl, hb5⟩; have hr5 := hr4.belowAll hb5; obtain ⟨w6, hst6, hr6, hg6⟩ := store3r lm hr5 rfl)
    | (refine wpList_store rfl 95 (.tmp 7) (.tmp 20) rfl (.pointer (some ⟨w3.heap.size, 0, none⟩)) (.agg (c3 lm)) rfl rfl hst6 ?_)
    | fail)
  obtain ⟨g7, hg7⟩ : ∃ y, y = w3.heap.size := ⟨_, rfl⟩
  rw [← hg7] at hr4 hg4 hr6 hg6 ⊢
  have hw7 : w.heap.size ≤ g7 := by have := hb3.size; omega
  have hL4 : Later w w4 := Below.grown (((Later.refl w).call hb3).alloc _) hg4 (by have := hb3.size; simp only [World.size_alloc]; omega) (fun j e => by cases e; exact hw7)
  have hL5 := hL4.call hb5
  have hLL : Later w w6 := Below.grown hL5 hg6 hL5.size (fun j e => by cases e; exact hw7)
  have hrL := hr6
  have HW7 := Lib.hid hw7
  clear hL5 hb5 hr5 hr6 hg6 hst6 hr4 hL4 hw7 HT2
  clear hb3 hst hg4 hg7
  have hbd : Root.behind word p 3 = Root.from_ word p 3 17 1 := rfl
  obtain ⟨R, hR⟩ : ∃ y, Root.behind word p 3 = y := ⟨_, rfl⟩
  rw [hR] at hbd
  have HR := Lib.hid hR
  have HBD := Lib.hid hbd
  clear hR hbd
  go_wp2_with fail
  go_loopw [8] (fun t wr => ∃ f k : Nat, k + f = 18 ∧ 1 ≤ k ∧ t = .int .u64 k ∧ R = Root.from_ word p 3 f k ∧ Row wr g7 95 (c3 lm) ∧ Later w wr) (fun t _ => 18 - (intOf t).toNat)
  case atStart => exact ⟨17, 1, rfl, Nat.le_refl _, rfl, HBD.out.symm ▸ rfl, hrL, hLL⟩
  case round =>
    obtain ⟨f, k, hkf, hk1, rfl, hRf, h7, hL⟩ := hrel
    clear hrL hLL
    by_cases hlt : k < 18
    · obtain ⟨f', rfl⟩ : ∃ f', f = f' + 1 := ⟨f - 1, by omega⟩
      have hRf' : R = (Root.hit word p 3 k || Root.from_ word p 3 f' (k + 1)) := hRf
      obtain ⟨n, hn⟩ : ∃ y, y = k * 4294967296 + word := ⟨_, rfl⟩
      have hni : (k : Int) * 4294967296 + (word : Int) = (n : Int) := by omega
      have hn1 : n + 1 < 18446744073709551616 := by omega
      have hit : Root.hit word p 3 k = (Root.atMost (Root.powT 3 n) lm && !Root.atMost (Root.powT 3 (n + 1)) lm) := by
        unfold Root.hit
        rw [hn, HLM.out]
      have HIT := Lib.hid hit
      have HRF := Lib.hid hRf'
      have HADD := Lib.hid (add1_u64 n hn1)
      have HN1 := Lib.hid hn1
      clear hn1 hRf hRf' hit hn
      go_upto_region 8 with fail
      obtain ⟨g10, hg10⟩ : ∃ y, y = wr.heap.size := ⟨_, rfl⟩
      have r10 : Row ((wr.alloc (.cells z3 95)).alloc (.cells z3 95)) g10 95 z3 := (Row.newAt hg10.symm).alloc _
      have r11 : Row ((wr.alloc (.cells z3 95)).alloc (.cells z3 95)) (g10 + 1) 95 z3 := Row.newAt (by simp only [World.size_alloc]; omega)
      have r7 := (h7.alloc (.cells z3 95)).alloc (.cells z3 95)
      have rL := (hL.alloc (.cells z3 95)).alloc (.cells z3 95)
      have h7l := h7.lt
      have hLs := hL.size
      obtain ⟨wB, hstB, rB10, gB⟩ := store3r ⟨1, 0, 0⟩ r10 rfl
      have rB11 := r11.grown gB (by intro e; injection e with e; omega)
      have rB7 := r7.grown gB (by intro e; injection e with e; omega)
      have rBL : Later w wB := Below.grown rL gB rL.size (fun j e => by cases e; omega)
      have cB0 : wB.cell? ⟨g10 + 1, 0, none⟩ = some (.int .u64 0) := rB11.cell 0
      have cB1 : wB.cell? ⟨g10 + 1, 1, none⟩ = some (.int .u64 0) := rB11.cell 1
      have cB2 : wB.cell? ⟨g10 + 1, 2, none⟩ = some (.int .u64 0) := rB11.cell 2
      have fB0 := rB11.frozen 0
      have fB1 := rB11.frozen 1
      have fB2 := rB11.frozen 2
      have hwg : w.heap.size ≤ g10 := by omega
      have h710 : g7 ≠ g10 := by omega
      have h711 : g7 ≠ g10 + 1 := by omega
      rw [hg10] at hstB cB0 cB1 cB2 fB0 fB1 fB2
      have HSB := Lib.hid hstB
      have HG10 := Lib.hid hg10
      clear hstB hg10
      clear r10 r11 r7 rL h7l hLs gB h7 hL
      go_upto_region 9 with (first
        | (refine wpList_buildC rfl 95 _ rfl #[(0, .int .u64 1), (1, .int .u64 0), (2, .int .u64 0)] (by rfl) (b100 _) ?_)
        | (with_reducible refine wpList_alloc rfl 95 rfl (alloc3r _) ?_)
        | (refine wpList_store rfl 95 (.tmp 10) (.tmp 30) rfl (.pointer (some ⟨wr.heap.size, 0, none⟩)) (.agg #[.int .u64 1, .int .u64 0, .int .u64 0]) rfl rfl HSB.out ?_)
        | fail)
      rw [← HG10.out]
      clear HSB cB0 cB1 cB2 fB0 fB1 fB2
      have rC10 := ((rB10.far (p := ⟨g10 + 1, 0, none⟩) (by simp) (.int .u64 1)).far (p := ⟨g10 + 1, 1, none⟩) (by simp) (.int .u64 0)).far (p := ⟨g10 + 1, 2, none⟩) (by simp) (.int .u64 0)
      have rC7 := ((rB7.far (p := ⟨g10 + 1, 0, none⟩) h711 (.int .u64 1)).far (p := ⟨g10 + 1, 1, none⟩) h711 (.int .u64 0)).far (p := ⟨g10 + 1, 2, none⟩) h711 (.int .u64 0)
      have rC11 : Row (((wB.setCell ⟨g10 + 1, 0, none⟩ (.int .u64 1)).setCell ⟨g10 + 1, 1, none⟩ (.int .u64 0)).setCell ⟨g10 + 1, 2, none⟩ (.int .u64 0)) (g10 + 1) 95 (c3 ⟨1, 0, 0⟩) := ((rB11.set 0 (.int .u64 1)).set 1 (.int .u64 0)).set 2 (.int .u64 0)
      have rCL : Later w (((wB.setCell ⟨g10 + 1, 0, none⟩ (.int .u64 1)).setCell ⟨g10 + 1, 1, none⟩ (.int .u64 0)).setCell ⟨g10 + 1, 2, none⟩ (.int .u64 0)) := Below.setCell (Below.setCell (Below.setCell rBL (p := ⟨g10 + 1, 0, none⟩) (Nat.le_succ_of_le hwg) _) (p := ⟨g10 + 1, 1, none⟩) (Nat.le_succ_of_le hwg) _) (p := ⟨g10 + 1, 2, none⟩) (Nat.le_succ_of_le hwg) _
      clear rB10 rB7 rB11 rBL
      generalize ((wB.setCell ⟨g10 + 1, 0, none⟩ (.int .u64 1)).setCell ⟨g10 + 1, 1, none⟩ (.int .u64 0)).setCell ⟨g10 + 1, 2, none⟩ (.int .u64 0) = wC at *
      go_wp2_with fail
      go_loopw [12] (fun t wr => ∃ i : Nat, i ≤ 3 ∧ t = .int .i64 i ∧ Row wr g10 95 (c3 (Root.powT i n)) ∧ Row wr (g10 + 1) 95 (c3 (Root.powT i (n + 1))) ∧ Row wr g7 95 (c3 lm) ∧ Later w wr) (fun t _ => 3 - (intOf t).toNat)
      case atStart => exact ⟨0, by omega, rfl, rC10, rC11, rC7, rCL⟩
      case round =>
        obtain ⟨i, hi, rfl, c10, c11, c7, cL⟩ := hrel
        clear rC10 rC11 rC7 rCL
        by_cases hilt : i < 3
        · have hp1 : Root.powT (i + 1) n = Root.times (Root.powT i n) n := rfl
          have hp2 : Root.powT (i + 1) (n + 1) = Root.times (Root.powT i (n + 1)) (n + 1) := rfl
          have ht1 := fun W => times_any (Root.powT i n) n W (pow_ok _ _) (by have := HN1.out; omega)
          have ht2 := fun W => times_any (Root.powT i (n + 1)) (n + 1) W (pow_ok _ _) HN1.out
          have HP1 := Lib.hid hp1
          have HP2 := Lib.hid hp2
          clear hp1 hp2
          generalize Root.powT i n = lo at *
          generalize Root.powT i (n + 1) = hi2 at *
          have HT1 := Lib.hid ht1
          have HT2 := Lib.hid ht2
          clear ht1 ht2
          have c10l := c10.lt
          go_upto_region 12 with fail
          refine (wpIn_wide (n := 0)).1 ?_
          refine wpIn_region_last2 wide_wide [Pr.eq (.agg (c3 lo)), Pr.eq (.int .u64 (n : Int)), Pr.eq (.agg (c3 (Root.times lo n))), Pr.eq (.agg (c3 hi2)), Pr.eq (.int .u64 (n : Int)), Pr.eq (.int .u64 ((n + 1 : Nat) : Int)), Pr.eq (.agg (c3 (Root.times hi2 (n + 1))))] (by kernel_rfl) (by kernel_rfl) (by kernel_rfl) (by kernel_rfl) (by kernel_rfl) (by kernel_rfl) rfl rfl (by kernel_rfl) ⟨?_, ?_, ?_, ?_, ?_, ?_, ?_, trivial⟩ ?_
          · exact fun ac W hL he => stepOk_want rfl (op_load rfl (he.keep (.tmp 10) (by kernel_rfl)) (run_load_row (c10.later hL) Try.underlying95 rfl info3r) rfl)
          · exact fun ac W hL he => stepOk_want rfl (op_move rfl (he.keep (.tmp 9) (by kernel_rfl)))
          · intro ac W hL he; refine stepOk_want rfl ?_; have e0 : ac.eval (.tmp 37) = (.agg (c3 lo)) := (he.get 0 37 (by kernel_rfl) rfl); have e1 : ac.eval (.tmp 38) = (.int .u64 (n : Int)) := (he.get 1 38 (by kernel_rfl) rfl); exact op_callF (vs := #[.agg (c3 lo), .int .u64 ((n : Int))]) rfl (by simp only [List.map_toArray, List.map_cons, List.map_nil, e0, e1]) (enters_of Try.func55 (by kernel_rfl) rfl) ((HT1.out W).mono fun e W' ⟨he', hb⟩ => ⟨_, he', hb, rfl⟩)
          · exact fun ac W hL he => stepOk_want rfl (op_load rfl (he.keep (.tmp 11) (by kernel_rfl)) (run_load_row (c11.later hL) Try.underlying95 rfl info3r) rfl)
          · exact fun ac W hL he => stepOk_want rfl (op_move rfl (he.keep (.tmp 9) (by kernel_rfl)))
          · exact fun ac W hL he => stepOk_want rfl (op_binOp rfl (he.get 4 41 (by kernel_rfl) rfl) rfl eqg_add (HADD.out W) rfl)
          · intro ac W hL he; refine stepOk_want rfl ?_; have e0 : ac.eval (.tmp 40) = (.agg (c3 hi2)) := (he.get 3 40 (by kernel_rfl) rfl); have e1 : ac.eval (.tmp 42) = (.int .u64 ((n + 1 : Nat) : Int)) := (he.get 5 42 (by kernel_rfl) rfl); exact op_callF (vs := #[.agg (c3 hi2), .int .u64 (((n + 1 : Nat) : Int))]) rfl (by simp only [List.map_toArray, List.map_cons, List.map_nil, e0, e1]) (enters_of Try.func55 (by kernel_rfl) rfl) ((HT2.out W).mono fun e W' ⟨he', hb⟩ => ⟨_, he', hb, rfl⟩)
          · intro xs W2 hL hx hk2 hgt
            have e1 := hgt 2 39 (by decide) (by kernel_rfl)
            have e2 := hgt 6 43 (by decide) (by kernel_rfl)
            have e3 : _ = Value.pointer (some ⟨g10, 0, none⟩) := hk2 (.tmp 10) (by kernel_rfl)
            have e4 : _ = Value.pointer (some ⟨g10 + 1, 0, none⟩) := hk2 (.tmp 11) (by kernel_rfl)
            have v1 : xs 2 = .agg (c3 (Root.times lo n)) := hx 2 (by decide)
            have v2 : xs 6 = .agg (c3 (Root.times hi2 (n + 1))) := hx 6 (by decide)
            rw [v1] at e1
            rw [v2] at e2
            obtain ⟨W3, hst3, q10, hg3⟩ := store3r (Root.times lo n) (c10.later hL) rfl
            have p11 := (c11.later hL).grown hg3 (by intro e; injection e with e; omega)
            obtain ⟨W4, hst4, q11, hg4⟩ := store3r (Root.times hi2 (n + 1)) p11 rfl
            have q10' := q10.grown hg4 (by intro e; injection e with e; omega)
            have q7 := ((c7.later hL).grown hg3 (fun e => h710 (by injection e))).grown hg4 (fun e => h711 (by injection e))
            have qL3 : Later w W3 := Below.grown (cL.step hL) hg3 (cL.step hL).size (fun j e => by cases e; exact hwg)
            have qL : Later w W4 := Below.grown qL3 hg4 qL3.size (fun j e => by cases e; omega)
            refine two_stores rfl rfl rfl rfl e3 e1 hst3 e4 e2 hst4 ?_
            clear hx hk2 hgt e1 e2 e3 e4 v1 v2 hst3 hst4 q10 p11 qL3 hg3 hg4 hL
            simp only [init2, putL, Nat.reduceAdd, Act.put, List.setIfInBounds_toArray, List.set_cons_succ, List.set_cons_zero]
            go_wp2_with fail
            go_roundw
            case rel => exact ⟨i + 1, by omega, by go_num, by rw [HP1.out]; exact q10', by rw [HP2.out]; exact q11, q7, qL⟩
            case measure => simp [intOf]; omega
        · obtain rfl : i = 3 := by omega
          have ld10 := run_load_row (P := Try.prog) (T := 95) c10 Try.underlying95 rfl info3r
          have ld7 := run_load_row (P := Try.prog) (T := 95) c7 Try.underlying95 rfl info3r
          have am1 := fun W => atMost_any (Root.powT 3 n) lm W
          have am2 := fun W => atMost_any (Root.powT 3 (n + 1)) lm W
          have hit := HIT.out
          generalize Root.powT 3 n = lo at *
          generalize Root.powT 3 (n + 1) = hi2 at *
          obtain ⟨b1, hb1⟩ : ∃ y, Root.atMost lo lm = y := ⟨_, rfl⟩
          obtain ⟨b2, hb2⟩ : ∃ y, Root.atMost hi2 lm = y := ⟨_, rfl⟩
          rw [hb1] at am1
          rw [hb2] at am2
          have hRR := HRF.out
          rw [hit, hb1, hb2] at hRR
          have HRR := Lib.hid hRR
          have AM1 := Lib.hid am1
          have AM2 := Lib.hid am2
          clear hRR hit hb1 hb2 am1 am2 HIT HRF hi
          cases b1
          · go_wp2_with (first
              | (refine wpList_load rfl 95 (.tmp 10) rfl (.pointer (some ⟨g10, 0, none⟩)) rfl ld10 ?_)
              | (refine wpList_load rfl 95 (.tmp 7) rfl (.pointer (some ⟨g7, 0, none⟩)) rfl ld7 ?_)
              | (go_at_call 56; refine (AM1.out _).mono ?_; clear AM1; rintro e w8 ⟨rfl, hb8⟩; have x7 := c7.belowAll hb8; have xL := cL.call hb8)
              | fail)
            go_roundw
            case rel => exact ⟨f', k + 1, by omega, by omega, by go_num, by rw [HRR.out]; simp, x7, xL⟩
            case measure => simp [intOf]; omega
          · cases b2
            all_goals
              go_wp2_with (first
                | (refine wpList_load rfl 95 (.tmp 10) rfl (.pointer (some ⟨g10, 0, none⟩)) rfl ld10 ?_)
                | (refine wpList_load rfl 95 (.tmp 7) rfl (.pointer (some ⟨g7, 0, none⟩)) rfl ld7 ?_)
                | (go_at_call 56; refine (AM1.out _).mono ?_; clear AM1; rintro e w8 ⟨rfl, hb8⟩; have x7 := c7.belowAll hb8; have x11 := c11.belowAll hb8; have xL := cL.call hb8; have ld11' := run_load_row (P := Try.prog) (T := 95) x11 Try.underlying95 rfl info3r; have ld7' := run_load_row (P := Try.prog) (T := 95) x7 Try.underlying95 rfl info3r)
                | (refine wpList_loadG (by rfl) 95 (.tmp 11) rfl (.pointer (some ⟨g10 + 1, 0, none⟩)) rfl ld11' ?_)
                | (refine wpList_loadG (by rfl) 95 (.tmp 7) rfl (.pointer (some ⟨g7, 0, none⟩)) rfl ld7' ?_)
                | (go_at_call 56; refine (AM2.out _).mono ?_; clear AM2; rintro e w9 ⟨rfl, hb9⟩; have y7 := x7.belowAll hb9; have yL := xL.call hb9)
                | fail)
            · go_ret
              exact ⟨by rw [HR.out, HRR.out]; rfl, yL⟩
            · go_roundw
              case rel => exact ⟨f', k + 1, by omega, by omega, by go_num, by rw [HRR.out]; simp, y7, yL⟩
              case measure => simp [intOf]; omega
    · obtain rfl : k = 18 := by omega
      obtain rfl : f = 0 := by omega
      have hRf' : R = false := hRf
      have HRF := Lib.hid hRf'
      clear hRf hRf'
      go_wp2_with fail
      go_ret
      exact ⟨by rw [HR.out, HRF.out]; rfl, hL⟩
end Go.Proofs.Ytfconncnccgenaa
