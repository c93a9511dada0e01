/- Two states held against each other; a press by the program; states that come in. -/
import Derived.Test.YtfconncnccgenaaShaE
import Derived.Test.YtfconncnccgenaaLaw
import Derived.OpenShut
set_option linter.unusedVariables false
set_option linter.unusedSimpArgs false
namespace Go.Proofs.Ytfconncnccgenaa
open Go.RowKit Go.ChangeShapes Go.WideShapes Go.ChangeAt
theorem stSame (x : Sha.St) (w : World) (d : Nat) : (Op.equalIn (d + 2) 41 (.agg (stC x 0)) (.agg (stC x 0))).run Try.prog w = .ok true w := by
  have hsz : ∀ w, (sizeOf 39).run Try.prog w = .ok 1 w := fun w => by kernel_rfl
  rw [Op.equalIn]
  simp only [Sem.run_bind, run_underlying Try.underlying41, Result.andThen_ok, hsz, Std.Legacy.Range.forIn_eq_forIn_range', Std.Legacy.Range.size, Nat.sub_zero, Nat.add_sub_cancel, Nat.div_one]
  have hl : ∀ i ∈ List.range' 0 8 1, i < 8 := fun i hi => by simpa using (List.mem_range'_1.1 hi).2
  generalize List.range' 0 8 1 = l at hl ⊢
  induction l with
  | nil => simp
  | cons i l ih =>
    have hi : i < 8 := hl i (by simp)
    have px : (part 39 (stC x 0) (i * 1)).run Try.prog w = .ok (.int .u32 ((x.get ((i + 0) % 8)).toNat : Int)) w := by
      simp [part, isAgg, run_underlying Try.underlying39, stC_get x 0 i hi]
    have pe : (Op.equalIn (d + 1) 39 (.int .u32 ((x.get ((i + 0) % 8)).toNat : Int)) (.int .u32 ((x.get ((i + 0) % 8)).toNat : Int))).run Try.prog w = .ok true w := by
      rw [run_equalIn_int w d 39 .u32 .u32 _ _ Try.underlying39, beq_self_eq_true]
    simp only [List.forIn_cons, Sem.run_bind, px, pe, Result.andThen_ok]
    simp only [Bool.not_true, Bool.false_eq_true, if_false, Sem.run_pure, Result.andThen_ok]
    exact ih fun j hj => hl j (by simp [hj])
theorem eqlSt (x : Sha.St) (w : World) : (binOp .eql 41 (.agg (stC x 0)) (.agg (stC x 0))).run Try.prog w = .ok (.bool true) w := by
  rw [run_eql_struct, stSame x w 9998]
  rfl
theorem neqSt (x : Sha.St) (w : World) : (binOp .neq 41 (.agg (stC x 0)) (.agg (stC x 0))).run Try.prog w = .ok (.bool false) w := by
  rw [run_neq_struct, stSame x w 9998]
  rfl
theorem eqgSt (b : BinOp) (x y : Operand) (xs ys : Array Value) (w : World) : (eqGuard b 41 x y (.agg xs) (.agg ys)).run Try.prog w = .ok () w := run_eqGuard_agg w b _ x y xs ys (by kernel_rfl)
/- a press by the program -/
theorem infoPr : (Try.prog.info? 70).map (·.size) = some 8 := by kernel_rfl
theorem allocPr (w : World) : (Instr.alloc 70 true (.tuple #[])).run Try.prog w = .ok (.pointer (some ⟨w.heap.size, 0, none⟩)) (w.alloc (.cells z8 70)) := by kernel_rfl
theorem buildPr (x : Sha.St) (w : World) : (Instr.build 70 #[(0, .agg (stC x 0))]).run Try.prog w = .ok (.agg (stC x 0)) w := by kernel_rfl
theorem storePr (x : Sha.St) (w : World) : (Instr.storeAt 70 (.pointer (some ⟨w.heap.size, 0, none⟩)) (.agg (stC x 0))).run Try.prog (w.alloc (.cells z8 70)) = .ok () (w.alloc (.cells (stC x 0) 70)) :=
  run_storeAt_new w 70 z8 (stC x 0) (by rw [stC_size]; exact infoPr) (by rw [stC_size]; simp [z8]) (stC_one x 0)
theorem slice64 {g : Nat} (W : World) : (Instr.sliceAt 42 (.pointer (some ⟨g, 0, none⟩)) none none none).run Try.prog W = .ok (.slice (some ⟨g, 0, none⟩) 64 64) W := sliceAll W
theorem rd_row {w : World} {g : Nat} {t : TypeId} {l : List UInt8} (h : Row w g t (l.map byteV).toArray) : Rd w (some ⟨g, 0, none⟩) l := fun _ =>
  ⟨g, 0, rfl, fun i hi => by rw [h.cell, Nat.zero_add, bytes_get l i hi]⟩
set_option maxRecDepth 100000 in
set_option maxHeartbeats 1000000 in
theorem shaPress_any (x : Sha.St) (l : List UInt8) (w : World) (hl : l.length = 64) :
    Calls Try.prog 19 #[.agg (stC x 0), .agg (l.map byteV).toArray] w fun e w' => e = .returned (.agg (stC (Sha.blk x l) 0)) ∧ Below w.heap.size w w' := by
  have hb1 := run_box_row (P := Try.prog) w 41 (stC x 0) (by rw [stC_size]; exact info8)
  have hb2 := fun w : World => run_box_row (P := Try.prog) w 42 (l.map byteV).toArray (by rw [List.size_toArray, List.length_map, hl]; exact infoB64)
  go_enter Try.func19, Try.ntmps19
  go_upto_region 1 with (first
    | (with_reducible refine wpList_box rfl 41 (.tmp 0) rfl (.agg (stC x 0)) rfl hb1 ?_)
    | (with_reducible refine wpList_box rfl 42 (.tmp 1) rfl (.agg (l.map byteV).toArray) rfl (hb2 _) ?_)
    | (with_reducible refine wpList_alloc rfl 41 rfl (alloc8 _) ?_)
    | fail)
  obtain ⟨g, hg⟩ : ∃ y, y = w.heap.size := ⟨_, rfl⟩
  have k2 : Row (((w.alloc (.cells (stC x 0) 41)).alloc (.cells (l.map byteV).toArray 42)).alloc (.cells z8 41)) g 41 (stC x 0) := ((Row.newAt hg.symm).alloc _).alloc _
  have k3 : Row (((w.alloc (.cells (stC x 0) 41)).alloc (.cells (l.map byteV).toArray 42)).alloc (.cells z8 41)) (g + 1) 42 (l.map byteV).toArray := (Row.newAt (by simp only [World.size_alloc]; omega)).alloc _
  have k4 : Row (((w.alloc (.cells (stC x 0) 41)).alloc (.cells (l.map byteV).toArray 42)).alloc (.cells z8 41)) (g + 1 + 1) 41 z8 := Row.newAt (by simp only [World.size_alloc]; omega)
  have kb : Later w (((w.alloc (.cells (stC x 0) 41)).alloc (.cells (l.map byteV).toArray 42)).alloc (.cells z8 41)) := (((Later.refl w).alloc _).alloc _).alloc _
  simp only [World.size_alloc]
  rw [← hg]
  have HG := Lib.hid hg
  clear hg hb1 hb2
  generalize ((w.alloc (.cells (stC x 0) 41)).alloc (.cells (l.map byteV).toArray 42)).alloc (.cells z8 41) = w1 at *
  have hld := run_load_row (P := Try.prog) (T := 41) k2 Try.underlying41 rfl (by rw [stC_size]; exact info8)
  have k5 := Row.new w1 70 (stC x 0)
  have j3 := rd_row (k3.alloc (.cells (stC x 0) 70))
  have j4 := k4.alloc (.cells (stC x 0) 70)
  have jb := kb.alloc (.cells (stC x 0) 70)
  have hk4 := k4.lt
  have hcall := block_any w1.heap.size 0 70 (stC x 0) x (some ⟨g + 1, 0, none⟩) 64 l _ hl (Nat.le_refl _) (by decide) j3 k5 (fun i hi => by rw [Nat.zero_add, stC_get x 0 i hi, show (i + 0) % 8 = i from by omega])
  have hset : setFrom (stC x 0) 0 ((Sha.blk x l).list.map wordV) = stC (Sha.blk x l) 0 := by rw [setFrom_whole _ _ (by rw [stC_size]; rfl), stC_zero]
  rw [hset] at hcall
  clear hset k2 k3 k4 kb k5 j3
  have HC := Lib.hid hcall
  clear hcall hl
  go_upto_region 2 with (first
    | (refine wpList_load rfl 41 (.tmp 2) rfl (.pointer (some ⟨g, 0, none⟩)) rfl hld ?_)
    | (refine wpList_build1 rfl 70 0 (.tmp 6) rfl (.agg (stC x 0)) rfl (buildPr x _) ?_)
    | (with_reducible refine wpList_alloc rfl 70 rfl (allocPr _) ?_)
    | (refine wpList_store rfl 70 (.tmp 5) (.tmp 7) rfl (.pointer (some ⟨w1.heap.size, 0, none⟩)) (.agg (stC x 0)) rfl rfl (storePr x _) ?_)
    | fail)
  go_wp2_with (first
    | (refine wpList_slice0 rfl 42 (.tmp 3) rfl (.pointer (some ⟨g + 1, 0, none⟩)) rfl (slice64 _) ?_)
    | fail)
  refine HC.out.mono ?_
  rintro e w2 ⟨rfl, hr2, hg2⟩
  have hld2 := run_load_row (P := Try.prog) (T := 41) hr2 Try.underlying41 rfl (by rw [stC_size]; exact info8)
  have hws : w.heap.size ≤ w1.heap.size := by have := HG.out; omega
  have i4 := j4.grown hg2 (by intro e; injection e with e; omega)
  have ib := Below.grown jb.below hg2 (by simp only [World.size_alloc]; omega) (fun j e => by cases e; exact hws)
  obtain ⟨W', hst, hr', hg'⟩ := run_put_row (P := Try.prog) (T := 41) i4 (vs := stC (Sha.blk x l) 0) (by rw [stC_size]; rfl) (by rw [stC_size]; exact info8) (stC_one _ _)
  clear HC hg2 hr2 i4 j4 jb hld
  go_wp2_with (first
    | (refine wpList_load rfl 41 (.tmp 10) rfl (.pointer (some ⟨w1.heap.size, 0, none⟩)) rfl hld2 ?_)
    | (refine wpList_store rfl 41 (.tmp 4) (.tmp 11) rfl (.pointer (some ⟨g + 1 + 1, 0, none⟩)) (.agg (stC (Sha.blk x l) 0)) rfl rfl hst ?_)
    | fail)
  refine bodyPost_ret (results_cell_row rfl _ _ (g + 1 + 1) 41 (stC (Sha.blk x l) 0) (0, 0) _ rfl hr' Try.underlying41 rfl (by rw [stC_size]; exact info8)) rfl ⟨rfl, ib.grown hg' ib.size (fun j e => by cases e; have := HG.out; omega)⟩
/-- A state that came in. -/
theorem open_state {H : Type} {enc : TypeId × Value → H} {P : Program} {w : World} {r : Reach} {b0 base : Nat} {spare : Nat → Bool} {held : Bool} {t e : TypeId} {v : Value} {d : DataW H} {ps : List MemPlace} (ht : P.underlying t = some (.array 8 e)) (he : P.underlying e = some (.int .u32)) (hce : P.cellsOf e = 1) (hct : P.cellsOf t = 8)
    (hval : Value.okWide P w r b0 t v) (hd : DataW.Trod enc P w base spare held t v d ps) : ∃ x : Sha.St, v = .agg (stC x 0) := by
  obtain ⟨cs, rfl, hsz, _⟩ : ∃ cs, v = .agg cs ∧ cs.size = P.cellsOf t ∧ Row.okWide P w r b0 t cs := by
    simpa [Value.okWide, ht] using hval
  obtain ⟨fuel, hf⟩ := hd
  obtain ⟨xs, m, rfl, _, _, hn, hx⟩ := DataW.trod_array ht hf
  rw [hct] at hsz
  have hcell : ∀ i, i < 8 → ∃ z : BitVec 32, cs[i]? = some (.int .u32 (z.toNat : Int)) := by
    intro i hi
    have h := hx i hi
    rw [hce, Nat.mul_one, List.getElem?_eq_getElem (by omega)] at h
    obtain ⟨z, hz, _, hw⟩ := DataW.trod_int he h
    have hw2 : 0 ≤ z ∧ z ≤ 4294967295 := by
      simp [Lit.wf, IntKind.min, IntKind.max, IntKind.signed, IntKind.bits] at hw
      omega
    refine ⟨BitVec.ofNat 32 z.toNat, ?_⟩
    have hcl : i < cs.toList.length := by simp; omega
    simp only [Value.cells] at hz
    rw [List.drop_eq_getElem_cons hcl] at hz
    simp only [List.take_succ_cons, List.take_zero] at hz
    injection hz with hz
    rw [← Array.getElem?_toList, List.getElem?_eq_getElem hcl, hz, BitVec.toNat_ofNat]
    congr 2
    omega
  obtain ⟨z0, h0⟩ := hcell 0 (by decide)
  obtain ⟨z1, h1⟩ := hcell 1 (by decide)
  obtain ⟨z2, h2⟩ := hcell 2 (by decide)
  obtain ⟨z3, h3⟩ := hcell 3 (by decide)
  obtain ⟨z4, h4⟩ := hcell 4 (by decide)
  obtain ⟨z5, h5⟩ := hcell 5 (by decide)
  obtain ⟨z6, h6⟩ := hcell 6 (by decide)
  obtain ⟨z7, h7⟩ := hcell 7 (by decide)
  refine ⟨⟨z0, z1, z2, z3, z4, z5, z6, z7⟩, ?_⟩
  congr 1
  apply Array.ext_getElem?
  intro i
  by_cases hi : i < 8
  · match i, hi with
    | 0, _ => exact h0
    | 1, _ => exact h1
    | 2, _ => exact h2
    | 3, _ => exact h3
    | 4, _ => exact h4
    | 5, _ => exact h5
    | 6, _ => exact h6
    | 7, _ => exact h7
  · rw [Array.getElem?_eq_none (by omega), Array.getElem?_eq_none (by rw [stC_size]; omega)]
end Go.Proofs.Ytfconncnccgenaa
