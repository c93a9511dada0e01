/- WireReads: the walk. -/
import Derived.Test.YtmipaacobioakaaWr31
set_option linter.unusedVariables false
set_option linter.unusedSimpArgs false
namespace Go.Proofs.Ytmipaacobioakaa
open Go.RowKit
theorem own_void (w : World) (U : TypeId) (base : Nat) (hb : base ≤ w.heap.size) : Own U (w.alloc (.cells #[] U)) base (.slice (some ⟨w.heap.size, 0, none⟩) 0 0) [] :=
  ⟨rfl, .inr ⟨_, 0, _, rfl, hb, heap_alloc_new w _, Nat.le_refl _, by decide, rfl, rfl⟩⟩
theorem op_unop {P : Program} {Q : Exit → Act → World → Prop} {o : Oper} {a : Act} {W : World} {R : Value → World → Prop} {op : UnOp} {t : TypeId} {x : Operand} {vx v : Value} (ho : o.op = .unOp op t x) (hx : a.eval x = vx) (hr : (Op.unary op vx).run P W = .ok v W) (h : R v W) : o.wp P a W (fun a' W' => ∃ v, a' = a.put o.dst v ∧ Later W W' ∧ R v W') Q := by
  refine op_value (v := v) (W' := W) ?_ (Later.refl _) h
  unfold execOp
  simp only [ho, hx, hr, Sem.run_bind, Sem.run_pure, Result.andThen_ok]
theorem neqI_self {P : Program} {W : World} (t : TypeId) (k : IntKind) (i : Int) : (binOp .neq t (.int k i) (.int k i)).run P W = .ok (.bool false) W := by rw [neqI, bne_self_eq_false]
/-- What Read makes is a block of its own, with bytes of its own. -/
theorem read2_any (A : Option Addr) (n ca : Nat) (l : List UInt8) (w : World) (hn : l.length = n) (hbn : n ≤ 140737488355328) (hr : Rd w A l) :
    Calls Try.prog 17 #[.slice A n ca] w fun e w' => ∃ g A1 c1, e = .returned (.pointer (some ⟨g, 0, none⟩)) ∧ Row w' g 47 (rdC A1 n c1 true false) ∧ n ≤ c1 ∧ c1 ≤ 9223372036854775807 ∧ Rd w' A1 l ∧ (∀ b o, A1 = some ⟨b, o, none⟩ → w.heap.size ≤ b) ∧ w.heap.size ≤ g ∧ Below w.heap.size w w' := by
  subst hn
  have hcl := clone_any A l.length ca l w rfl hbn hr
  go_enter Try.func17, Try.ntmps17
  go_wp2_with (first
    | (go_at_call 40; refine hcl.mono ?_; clear hcl; rintro e w1 ⟨v1, rfl, hown, hL1⟩; obtain ⟨A1, c1, rfl, h1, h2, hr1⟩ := hown.slice)
    | fail)
  go_ret
  exact ⟨_, A1, c1, rfl, Row.new w1 _ _, h1, h2, hr1.alloc _, fun b o e => (hown.at_ b (by rw [e]; rfl)).1, hL1.size, hL1.alloc hL1.size _⟩
set_option maxRecDepth 100000 in
set_option maxHeartbeats 8000000 in
theorem wireReads_main (A : Option Addr) (n ca : Nat) (l : List UInt8) (B : Option Addr) (m cb : Nat) (xs : List (Int × Int)) (w : World) (hn3 : n ≤ 500) (hm3 : m ≤ 30) (hn : l.length = n) (hc : n ≤ ca) (hcm : ca ≤ 9223372036854775807) (hr : Rd w A l) (hm : xs.length = m) (hx : Asks w B xs) :
    Calls Try.prog 4 #[.slice A n ca, .slice B m cb] w fun e w' => e = .returned (.bool true) ∧ Below w.heap.size w w' := by
  have d1 : decide ((500 : Int) < (n : Int)) = false := decide_eq_false (by omega)
  have d1' : decide (500 < n) = false := decide_eq_false (by omega)
  have d2 : decide ((30 : Int) < (m : Int)) = false := decide_eq_false (by omega)
  have d2' : decide (30 < m) = false := decide_eq_false (by omega)
  refine Calls.post fun Φ HΦ => ?_
  have HN := Lib.hid hn
  have HM := Lib.hid hm
  have hkn : (l ++ [77]).length = n + 1 := by rw [List.length_append, hn]; rfl
  have HKN := Lib.hid hkn
  clear hn hm hkn
  go_enter Try.func4, Try.ntmps4
  go_upto_region 4 with (first
    | (at_builtin; refine wpList_append_bytes rfl (.tmp 30) (.tmp 31) 22 rfl w.heap.size 5 Try.underlying22 byteInfo _ [] rfl (own_void w _ _ (Nat.le_refl _)) A n ca l rfl HN.out (hr.alloc _) (by simp; omega) (by simp only [World.size_alloc]; omega) ?_; intro v1 w1 hown1 hg1 hat1; rw [List.nil_append] at hown1; have hL1 : Later w w1 := (below_new w (.cells #[] 5)).grown hg1 (by simp only [World.size_alloc]; omega) (fun j e => (own_void w 5 w.heap.size (Nat.le_refl _)).at_ j e |>.1))
    | (at_builtin; refine wpList_append_bytes rfl (.tmp 32) (.tmp 33) 22 rfl w.heap.size 5 Try.underlying22 byteInfo _ l rfl (hown1.alloc _) (some ⟨w1.heap.size, 0, none⟩) 1 1 [77] rfl rfl (Rd.byte1 rfl) (by rw [HN.out]; omega) (by have := hL1.size; simp only [World.size_alloc]; omega) ?_; intro v2 w2 hown2 hg2 hat2; have hL2 : Later w w2 := Below.grown (hL1.alloc _) hg2 (by have := hL1.size; simp only [World.size_alloc]; omega) (fun j e => (hown1.at_ j e).1); obtain ⟨gm, ck, rfl, hkg, hk1, hkm, hkr⟩ := hown2.form (by simp); rw [HKN.out] at hk1 ⊢; have hk2 : (n : Int) ≤ (ck : Int) := by omega)
    | fail)
  have hkey : Rd w2 (some ⟨gm, 0, none⟩) l := by
    have := hkr.take n
    rwa [List.take_append_of_le_length (by rw [HN.out]; exact Nat.le_refl _), List.take_of_length_le (by rw [HN.out]; exact Nat.le_refl _)] at this
  have h77 : w2.cell? ⟨gm, n, none⟩ = some (.int .u8 77) := by
    obtain ⟨b, o, e, hcx⟩ := hkr.at_ (k := n) (by rw [HKN.out]; omega)
    injection e with e
    injection e with e1 e2
    subst e1 e2
    rw [Nat.zero_add, List.getElem_append_right (by rw [HN.out]; exact Nat.le_refl _)] at hcx
    simpa [HN.out, byteV] using hcx
  have hra := hr.later hL2
  have hxr := hown2.xrow
  have hread := read2_any (some ⟨gm, 0, none⟩) n ck l w2 HN.out (by omega) hkey
  clear hown1 hown2 hg1 hg2 hat1 hat2 hkr hL1
  go_upto_region 5 with (first
    | (go_at_call 17; refine hread.mono ?_; clear hread; rintro e w3 ⟨g, A3, c3, rfl, krd3, hc31, hc32, hrd3, hA3b, hg3, hb3⟩)
    | fail)
  have hL3 := hL2.call hb3
  have hcv1 := strOf (c := ck) (hkey.later hb3) HN.out
  have hcv2 := strOf (c := ca) (hra.later hb3) HN.out
  have h773 := (show Later w2 w3 from hb3).cell h77
  have hx3 := hxr.below hb3
  have hA1 : (n : Int) + 1 ≤ (ck : Int) := by omega
  have hA2 : (0 : Int) ≤ (n : Int) + 1 := by omega
  have hA3 : (n : Int) < (n : Int) + 1 := by omega
  have hA4 : IntKind.i64.wrap ((n : Int) + 1) = (n : Int) + 1 := IntWalk.i64_in _ (by omega)
  have hA5 : ((n : Int) + 1).toNat = n + 1 := by omega
  go_upto_region 7 with fail
  have hgmlt : gm < w2.heap.size := by have := block_lt_of_cell h77; exact this
  have hgne : g ≠ gm := by omega
  have hAne : ∀ b o, A3 = some ⟨b, o, none⟩ → b ≠ gm := fun b o e => by have := hA3b b o e; omega
  obtain ⟨cs0, krow, hcsz, hcs⟩ : ∃ cs : Array Value, Row w3 gm 5 cs ∧ n + 1 ≤ cs.size ∧ ∀ j, j < n + 1 → ∃ q, cs[j]? = some (byteV q) := by
    rw [HKN.out] at hx3
    rcases hx3 with h | ⟨g4, cap4, cs, e4, hg4, hrow4, hsz4, hcs4⟩
    · omega
    · injection e4 with e4 _ e5
      injection e4 with e4
      injection e4 with e4
      subst e4
      exact ⟨cs, hrow4, by omega, hcs4⟩
  clear hcv1 hcv2 h773 hx3 hA1 hA2 hA3 hA4 hA5 hxr hra hkey h77 hb3 hL2 hk2
  go_wp2_with fail
  go_loopw [7] (fun t wr => ∃ j : Nat, j ≤ n ∧ t = .int .i64 j ∧ (∃ cs : Array Value, Row wr gm 5 cs ∧ n + 1 ≤ cs.size ∧ ∀ j, j < n + 1 → ∃ q, cs[j]? = some (byteV q)) ∧ Same (fun k => k ≠ gm) w3 wr) (fun t _ => n - (intOf t).toNat)
  case atStart => exact ⟨0, by omega, rfl, ⟨cs0, krow, hcsz, hcs⟩, Same.refl _ _⟩
  case round =>
    obtain ⟨j, hj, rfl, ⟨cs, hrow4, hsz4, hcs4⟩, hsm⟩ := hrel
    by_cases hlt : j < n
    · obtain ⟨y, hy⟩ := hcs4 j (by omega)
      have hc4 : wr.cell? ⟨gm, j, none⟩ = some (.int .u8 (y.toNat : Int)) := (hrow4.cell j).trans hy
      have hf4 := hrow4.frozen j
      have hy8 := y.toNat_lt
      have HCS := Lib.hid hcs4
      clear hy hcs4 krow hcs
      go_wp2_with fail
      go_roundw
      case rel =>
        refine ⟨j + 1, by omega, by go_num, ⟨_, hrow4.set j _, by simpa using hsz4, ?_⟩, hsm.trans (Same.set wr ⟨gm, j, none⟩ _)⟩
        intro i hi
        by_cases e : j = i
        · subst e
          refine ⟨UInt8.ofNat (y.toNat + 1), ?_⟩
          rw [Array.getElem?_setIfInBounds_self, if_pos (by omega), byteV, UInt8.toNat_ofNat']
          congr 2
        · rw [Array.getElem?_setIfInBounds_ne e]
          exact HCS.out i hi
      case measure => simp [intOf]; omega
    · obtain rfl : j = n := by omega
      have hL4 : Later w wr := ((Same.of_below hL3).trans (hsm.mono fun k h => by show k ≠ gm; omega)).below
      have hw4 : IsRd wr g l false := ⟨A3, c3, by rw [HN.out]; exact krd3.same hsm hgne, by rw [HN.out]; exact hc31, hc32, hrd3.same hsm fun b o e _ => hAne b o e⟩
      have hr4 := hr.later hL4
      have hg4 : w.heap.size ≤ g := by have := hL3.size; have := hg3; omega
      clear hrow4 hsz4 hcs4 hsm krow hcs hcsz krd3 hrd3 hA3b hAne hL3
      obtain ⟨w5, hst, k85, hg5⟩ := storeRf (A' := A) (n' := j) (c' := ca) (bad' := false) (Row.new wr 34 (rfV none 0 0 false))
      go_upto_region 12 with (first
        | (with_reducible refine wpList_alloc rfl 34 rfl (allocRf _) ?_)
        | (refine wpList_store rfl 34 (.tmp 8) (.tmp 70) rfl (.pointer (some ⟨wr.heap.size, 0, none⟩)) (.agg (rfV A j ca false)) rfl rfl hst ?_)
        | fail)
      have hL45 : Later wr w5 := ((Later.refl wr).alloc (.cells (rfV none 0 0 false) 34)).grown hg5 (by simp) (fun k e => by cases e; omega)
      have hL5 := hL4.step hL45
      have hw5 := hw4.later hL45
      have hgl := hw4.lt
      obtain ⟨q8, hq8⟩ : ∃ q, q = wr.heap.size := ⟨_, rfl⟩
      rw [← hq8] at k85 ⊢
      have hq8w : w.heap.size ≤ q8 := by have := hL4.size; omega
      have hg8 : g ≠ q8 := by omega
      have hx5 := hx
      clear hst hg5 hL45 hq8 hr4 hw4 hL4 hgl
      go_wp2_with fail
      go_loopw [9] (fun t wv => ∃ (i : Nat) (l' : List UInt8) (bad' : Bool) (D : Option Addr) (c' : Nat), i ≤ m ∧ t = .int .i64 i ∧ Later w wv ∧ IsRd wv g l' bad' ∧ Row wv q8 34 (rfV D l'.length c' bad') ∧ l'.length ≤ c' ∧ c' ≤ 9223372036854775807 ∧ l'.length ≤ j ∧ (∀ X, Rd X A l → Rd X D l')) (fun t _ => m - (intOf t).toNat)
      case atStart => exact ⟨0, l, false, A, ca, by omega, rfl, hL5, hw5, by rw [HN.out]; exact k85, by rw [HN.out]; exact hc, hcm, by rw [HN.out]; exact Nat.le_refl _, fun _ h => h⟩
      case round =>
        clear hL5 hw5 k85
        obtain ⟨i, l', bad', D, c', hi, rfl, hLv, hwv, k8v, hcc, hcc2, hll, hD⟩ := hrel
        by_cases hlt2 : i < m
        · have e1 : decide ((i : Int) < (m : Int)) = true := decide_eq_true (by omega)
          have hil : i < xs.length := by rw [HM.out]; exact hlt2
          obtain ⟨b, o, rfl, hcs⟩ := hx (by intro e; subst e; simp at hil)
          have hxi := hcs i hil
          obtain ⟨what, hwhat⟩ : ∃ y, xs[i].1 = y := ⟨_, rfl⟩
          obtain ⟨most, hmost⟩ : ∃ y, xs[i].2 = y := ⟨_, rfl⟩
          rw [hwhat, hmost] at hxi
          have HXI : ∀ W, Later w W → W.rangeAt b (o + i * 2) [.int .i64 what, .int .i64 most] := fun W hL j v hv => (hL.cell (hxi j v hv))
          have hgl := hwv.lt
          have hq8l := k8v.lt
          clear hcs hxi hwhat hmost hil
          have hask := fun W (hL : Later w W) (h : IsRd W g l' bad') => ask_any g D l'.length c' l' bad' what most W rfl hcc hcc2 (by omega) (hD W (hr.later hL)) h
          have hl2 := Wr.askR_len what most l' bad'
          obtain ⟨R, hR⟩ : ∃ R, Wr.askR what most l' bad' = R := ⟨_, rfl⟩
          rw [hR] at hask hl2
          obtain ⟨l2, b2⟩ := R
          have HASK := Lib.hid hask
          clear hask hR
          go_upto_region 15 with fail
          refine (wpIn_wide (n := 0)).1 ?_
          refine wpIn_region_lastY wide_wide (fun f ys W => Later w W ∧ Row W q8 34 (rfV D l'.length c' bad') ∧ (f 0 = true → ys 0 = .pointer (some ⟨g, 0, none⟩)) ∧ (f 1 = true → ys 1 = .agg (rfV D l'.length c' bad')) ∧ (f 2 = true → ys 2 = .slice (some ⟨b, o, none⟩) m cb) ∧ (f 3 = true → ys 3 = .int .i64 (i : Int)) ∧ (f 4 = true → ys 4 = .pointer (some ⟨b, o + i * 2, none⟩)) ∧ (f 5 = true → ys 5 = .agg #[.int .i64 what, .int .i64 most]) ∧ (f 6 = false → IsRd W g l' bad') ∧ (f 6 = true → IsRd W g l2 b2 ∧ ∃ v, ys 6 = .tuple #[v, .bool true] ∧ RefV D l' v l2 b2) ∧ (f 7 = true → f 6 = true ∧ ys 7 = ys 6) ∧ (f 8 = true → f 6 = true ∧ ys 6 = .tuple #[ys 8, .bool true]) ∧ (f 9 = true → ys 9 = .bool true) ∧ (f 10 = true → ∃ q cs, ys 10 = .pointer (some ⟨q, 0, none⟩) ∧ w.heap.size ≤ q ∧ q ≠ g ∧ q ≠ q8 ∧ Row W q 34 cs ∧ (f 11 = true → f 8 = true ∧ ys 8 = .agg cs) ∧ (f 11 = false → cs = rfV none 0 0 false)) ∧ (f 11 = true → f 10 = true)) ⟨hLv.drew, k8v.drew, by simp, by simp, by simp, by simp, by simp, by simp, fun _ => hwv.later ((Later.refl _).drew), by simp, by simp, by simp, by simp, by simp, by simp⟩ (by kernel_rfl) (by kernel_rfl) (by kernel_rfl) (by kernel_rfl) (by kernel_rfl) (by kernel_rfl) rfl ⟨?_, ?_, ?_, ?_, ?_, ?_, ?_, ?_, ?_, ?_, ?_, ?_, trivial⟩ ?_
          · intro a W f ys hI he
            obtain ⟨i0, i1, i2, i3, i4, i5, i6, i7, i8, i9, i10, i11, i12, i13, i14⟩ := hI
            refine stepOkY_later rfl ?_ (op_move (R := fun v W' => v = .pointer (some ⟨g, 0, none⟩)) rfl (he.keep (.tmp 6) (by kernel_rfl)))
            rintro v W' hL rfl
            exact ⟨i0.step hL, i1.later hL, fun _ => rfl, fun h => i3 h, fun h => i4 h, fun h => i5 h, fun h => i6 h, fun h => i7 h, fun h => (i8 h).later hL, fun h => ⟨(i9 h).1.later hL, (i9 h).2⟩, fun h => i10 h, fun h => i11 h, fun h => i12 h, fun h => by { obtain ⟨q, cs, a1, a2, a3, a4, a5, a6, a7⟩ := i13 h; exact ⟨q, cs, a1, a2, a3, a4, a5.later hL, a6, a7⟩ }, fun h => i14 h⟩
          · intro a W f ys hI he
            obtain ⟨i0, i1, i2, i3, i4, i5, i6, i7, i8, i9, i10, i11, i12, i13, i14⟩ := hI
            refine stepOkY_later rfl ?_ (op_load (R := fun v W' => v = Value.agg (rfV D l'.length c' bad')) rfl (he.keep (.tmp 8) (by kernel_rfl)) (loadRf i1) rfl)
            rintro v W' hL rfl
            exact ⟨i0.step hL, i1.later hL, fun h => i2 h, fun _ => rfl, fun h => i4 h, fun h => i5 h, fun h => i6 h, fun h => i7 h, fun h => (i8 h).later hL, fun h => ⟨(i9 h).1.later hL, (i9 h).2⟩, fun h => i10 h, fun h => i11 h, fun h => i12 h, fun h => by { obtain ⟨q, cs, a1, a2, a3, a4, a5, a6, a7⟩ := i13 h; exact ⟨q, cs, a1, a2, a3, a4, a5.later hL, a6, a7⟩ }, fun h => i14 h⟩
          · intro a W f ys hI he
            obtain ⟨i0, i1, i2, i3, i4, i5, i6, i7, i8, i9, i10, i11, i12, i13, i14⟩ := hI
            refine stepOkY_later rfl ?_ (op_move (R := fun v W' => v = .slice (some ⟨b, o, none⟩) m cb) rfl (he.keep (.tmp 1) (by kernel_rfl)))
            rintro v W' hL rfl
            exact ⟨i0.step hL, i1.later hL, fun h => i2 h, fun h => i3 h, fun _ => rfl, fun h => i5 h, fun h => i6 h, fun h => i7 h, fun h => (i8 h).later hL, fun h => ⟨(i9 h).1.later hL, (i9 h).2⟩, fun h => i10 h, fun h => i11 h, fun h => i12 h, fun h => by { obtain ⟨q, cs, a1, a2, a3, a4, a5, a6, a7⟩ := i13 h; exact ⟨q, cs, a1, a2, a3, a4, a5.later hL, a6, a7⟩ }, fun h => i14 h⟩
          · intro a W f ys hI he
            obtain ⟨i0, i1, i2, i3, i4, i5, i6, i7, i8, i9, i10, i11, i12, i13, i14⟩ := hI
            refine stepOkY_later rfl ?_ (op_move (R := fun v W' => v = .int .i64 (i : Int)) rfl (he.keep (.tmp 9) (by kernel_rfl)))
            rintro v W' hL rfl
            exact ⟨i0.step hL, i1.later hL, fun h => i2 h, fun h => i3 h, fun h => i4 h, fun _ => rfl, fun h => i6 h, fun h => i7 h, fun h => (i8 h).later hL, fun h => ⟨(i9 h).1.later hL, (i9 h).2⟩, fun h => i10 h, fun h => i11 h, fun h => i12 h, fun h => by { obtain ⟨q, cs, a1, a2, a3, a4, a5, a6, a7⟩ := i13 h; exact ⟨q, cs, a1, a2, a3, a4, a5.later hL, a6, a7⟩ }, fun h => i14 h⟩
          · intro a W f ys hI he
            obtain ⟨i0, i1, i2, i3, i4, i5, i6, i7, i8, i9, i10, i11, i12, i13, i14⟩ := hI
            refine stepOkY_later rfl ?_ (op_idx (R := fun v W' => v = .pointer (some ⟨b, o + i * 2, none⟩)) rfl ((he.val 2 80 (by kernel_rfl) rfl).trans (i4 (he.done 2 (by kernel_rfl)))) ((he.val 3 81 (by kernel_rfl) rfl).trans (i5 (he.done 3 (by kernel_rfl)))) (idxAsk hlt2) rfl)
            rintro v W' hL rfl
            exact ⟨i0.step hL, i1.later hL, fun h => i2 h, fun h => i3 h, fun h => i4 h, fun h => i5 h, fun _ => rfl, fun h => i7 h, fun h => (i8 h).later hL, fun h => ⟨(i9 h).1.later hL, (i9 h).2⟩, fun h => i10 h, fun h => i11 h, fun h => i12 h, fun h => by { obtain ⟨q, cs, a1, a2, a3, a4, a5, a6, a7⟩ := i13 h; exact ⟨q, cs, a1, a2, a3, a4, a5.later hL, a6, a7⟩ }, fun h => i14 h⟩
          · intro a W f ys hI he
            obtain ⟨i0, i1, i2, i3, i4, i5, i6, i7, i8, i9, i10, i11, i12, i13, i14⟩ := hI
            refine stepOkY_later rfl ?_ (op_load (R := fun v W' => v = Value.agg #[.int .i64 what, .int .i64 most]) rfl ((he.val 4 82 (by kernel_rfl) rfl).trans (i6 (he.done 4 (by kernel_rfl)))) (loadAsk (HXI W i0)) rfl)
            rintro v W' hL rfl
            exact ⟨i0.step hL, i1.later hL, fun h => i2 h, fun h => i3 h, fun h => i4 h, fun h => i5 h, fun h => i6 h, fun _ => rfl, fun h => (i8 h).later hL, fun h => ⟨(i9 h).1.later hL, (i9 h).2⟩, fun h => i10 h, fun h => i11 h, fun h => i12 h, fun h => by { obtain ⟨q, cs, a1, a2, a3, a4, a5, a6, a7⟩ := i13 h; exact ⟨q, cs, a1, a2, a3, a4, a5.later hL, a6, a7⟩ }, fun h => i14 h⟩
          · intro a W f ys hI he
            obtain ⟨i0, i1, i2, i3, i4, i5, i6, i7, i8, i9, i10, i11, i12, i13, i14⟩ := hI
            have e78 : a.eval (.tmp 78) = .pointer (some ⟨g, 0, none⟩) := (he.val 0 78 (by kernel_rfl) rfl).trans (i2 (he.done 0 (by kernel_rfl)))
            have e79 : a.eval (.tmp 79) = .agg (rfV D l'.length c' bad') := (he.val 1 79 (by kernel_rfl) rfl).trans (i3 (he.done 1 (by kernel_rfl)))
            have e83 : a.eval (.tmp 83) = .agg #[.int .i64 what, .int .i64 most] := (he.val 5 83 (by kernel_rfl) rfl).trans (i7 (he.done 5 (by kernel_rfl)))
            have h6 : IsRd W g l' bad' := i8 he.todo
            have hf6 : f 6 = false := he.todo
            refine stepOkY_want rfl (op_callFK (vs := #[.pointer (some ⟨g, 0, none⟩), .agg (rfV D l'.length c' bad'), .agg #[.int .i64 what, .int .i64 most]]) rfl (by simp only [List.map_toArray, List.map_cons, List.map_nil, e78, e79, e83]) (enters_of Try.func16 (by kernel_rfl) rfl) ?_)
            refine (HASK.out W i0 h6).mono ?_
            rintro e W' ⟨hs, hr2, v, rfl, hv⟩
            have hq8W := i1.lt
            refine ⟨_, rfl, _, rfl, later_of_same i0 hg4 hs, i1.same hs ⟨hq8W, fun e => hg8 e.symm⟩, fun h => i2 h, fun h => i3 h, fun h => i4 h, fun h => i5 h, fun h => i6 h, fun h => i7 h, (fun h => by cases h), fun _ => ⟨hr2, v, rfl, hv⟩, ?_, ?_, fun h => i12 h, fun h => ?_, fun h => i14 h⟩
            · intro h; have := (i10 h).1; rw [hf6] at this; cases this
            · intro h; have := (i11 h).1; rw [hf6] at this; cases this
            · obtain ⟨q, cs, a1, a2, a3, a4, a5, a6, a7⟩ := i13 h
              exact ⟨q, cs, a1, a2, a3, a4, a5.same hs ⟨a5.lt, a3⟩, a6, a7⟩
          · intro a W f ys hI he
            obtain ⟨i0, i1, i2, i3, i4, i5, i6, i7, i8, i9, i10, i11, i12, i13, i14⟩ := hI
            refine stepOkY_later rfl ?_ (op_move (R := fun v W' => v = ys 6) rfl (he.val 6 84 (by kernel_rfl) rfl))
            rintro v W' hL rfl
            exact ⟨i0.step hL, i1.later hL, fun h => i2 h, fun h => i3 h, fun h => i4 h, fun h => i5 h, fun h => i6 h, fun h => i7 h, fun h => (i8 h).later hL, fun h => ⟨(i9 h).1.later hL, (i9 h).2⟩, fun _ => ⟨he.done 6 (by kernel_rfl), rfl⟩, fun h => i11 h, fun h => i12 h, fun h => by { obtain ⟨q, cs, a1, a2, a3, a4, a5, a6, a7⟩ := i13 h; exact ⟨q, cs, a1, a2, a3, a4, a5.later hL, a6, a7⟩ }, fun h => i14 h⟩
          · intro a W f ys hI he
            obtain ⟨i0, i1, i2, i3, i4, i5, i6, i7, i8, i9, i10, i11, i12, i13, i14⟩ := hI
            have hf7 : f 7 = true := he.done 7 (by kernel_rfl)
            obtain ⟨hf6, e76⟩ := i10 hf7
            obtain ⟨hr2, v0, e60, hv0⟩ := i9 hf6
            have e77 : a.eval (.tmp 77) = .tuple #[v0, .bool true] := (he.val 7 77 (by kernel_rfl) rfl).trans (e76.trans e60)
            refine stepOkY_later rfl ?_ (op_extract (R := fun v W' => v = v0) rfl e77 rfl rfl)
            rintro v W' hL rfl
            have hf8 : f 8 = false := he.todo
            refine ⟨i0.step hL, i1.later hL, fun h => i2 h, fun h => i3 h, fun h => i4 h, fun h => i5 h, fun h => i6 h, fun h => i7 h, fun h => (i8 h).later hL, fun h => ⟨(i9 h).1.later hL, (i9 h).2⟩, fun h => i10 h, fun _ => ⟨hf6, e60⟩, fun h => i12 h, fun h => ?_, fun h => i14 h⟩
            obtain ⟨q, cs, a1, a2, a3, a4, a5, a6, a7⟩ := i13 h
            exact ⟨q, cs, a1, a2, a3, a4, a5.later hL, fun h11 => by { have := (a6 h11).1; rw [hf8] at this; cases this }, a7⟩
          · intro a W f ys hI he
            obtain ⟨i0, i1, i2, i3, i4, i5, i6, i7, i8, i9, i10, i11, i12, i13, i14⟩ := hI
            have hf7 : f 7 = true := he.done 7 (by kernel_rfl)
            obtain ⟨hf6, e76⟩ := i10 hf7
            obtain ⟨hr2, v0, e60, hv0⟩ := i9 hf6
            have e77 : a.eval (.tmp 77) = .tuple #[v0, .bool true] := (he.val 7 77 (by kernel_rfl) rfl).trans (e76.trans e60)
            refine stepOkY_later rfl ?_ (op_extract (R := fun v W' => v = .bool true) rfl e77 rfl rfl)
            rintro v W' hL rfl
            exact ⟨i0.step hL, i1.later hL, fun h => i2 h, fun h => i3 h, fun h => i4 h, fun h => i5 h, fun h => i6 h, fun h => i7 h, fun h => (i8 h).later hL, fun h => ⟨(i9 h).1.later hL, (i9 h).2⟩, fun h => i10 h, fun h => i11 h, fun _ => rfl, fun h => by { obtain ⟨q, cs, a1, a2, a3, a4, a5, a6, a7⟩ := i13 h; exact ⟨q, cs, a1, a2, a3, a4, a5.later hL, a6, a7⟩ }, fun h => i14 h⟩
          · intro a W f ys hI he
            obtain ⟨i0, i1, i2, i3, i4, i5, i6, i7, i8, i9, i10, i11, i12, i13, i14⟩ := hI
            have hgW : g < W.heap.size := by
              cases h6 : f 6
              · exact (i8 h6).lt
              · exact (i9 h6).1.lt
            have hq8W := i1.lt
            have hf10 : f 10 = false := he.todo
            refine stepOkY_later rfl ?_ (op_alloc (R := fun v W' => v = .pointer (some ⟨W.heap.size, 0, none⟩) ∧ Row W' W.heap.size 34 (rfV none 0 0 false)) rfl (allocRf W) ((Later.refl W).alloc _) ⟨rfl, Row.new W _ _⟩)
            rintro v W' hL ⟨rfl, hnew⟩
            exact ⟨i0.step hL, i1.later hL, fun h => i2 h, fun h => i3 h, fun h => i4 h, fun h => i5 h, fun h => i6 h, fun h => i7 h, fun h => (i8 h).later hL, fun h => ⟨(i9 h).1.later hL, (i9 h).2⟩, fun h => i10 h, fun h => i11 h, fun h => i12 h, fun _ => ⟨_, _, rfl, i0.size, by omega, by omega, hnew, (fun h11 => by { have := i14 h11; rw [hf10] at this; cases this }), fun _ => rfl⟩, fun _ => rfl⟩
          · intro a W f ys hI he
            obtain ⟨i0, i1, i2, i3, i4, i5, i6, i7, i8, i9, i10, i11, i12, i13, i14⟩ := hI
            have hf10 : f 10 = true := he.done 10 (by kernel_rfl)
            have hf8 : f 8 = true := he.done 8 (by kernel_rfl)
            have hf6 : f 6 = true := he.done 6 (by kernel_rfl)
            have hf11 : f 11 = false := he.todo
            obtain ⟨q, cs, a1, a2, a3, a4, a5, a6, a7⟩ := i13 hf10
            obtain ⟨hr2, v0, e60, D2, c2, rfl, hv1, hv2, hv3⟩ := i9 hf6
            obtain ⟨_, e68⟩ := i11 hf8
            have e8 : ys 8 = .agg (rfV D2 l2.length c2 b2) := by
              rw [e60] at e68
              injection e68 with e68
              have := congrArg (fun a : Array Value => a[0]?) e68
              simpa using this.symm
            rw [a7 hf11] at a5
            obtain ⟨W', hst, hrow', hg'⟩ := storeRf (A' := D2) (n' := l2.length) (c' := c2) (bad' := b2) a5
            have hw2 : ∀ j, some q = some j → w.heap.size ≤ j := fun j e => by cases e; exact a2
            have e10 : a.eval (.tmp 10) = .pointer (some ⟨q, 0, none⟩) := (he.val 10 10 (by kernel_rfl) rfl).trans a1
            have e85 : a.eval (.tmp 85) = .agg (rfV D2 l2.length c2 b2) := (he.val 8 85 (by kernel_rfl) rfl).trans e8
            have hgW := hr2.lt
            exact stepOkY_want rfl (op_storeK rfl e10 e85 hst ⟨_, rfl, i0.grown hg' i0.size hw2, i1.grown hg' (fun e => a4 (Option.some.inj e).symm), fun h => i2 h, fun h => i3 h, fun h => i4 h, fun h => i5 h, fun h => i6 h, fun h => i7 h, (fun h => by have h' : f 6 = false := h; rw [hf6] at h'; cases h'), fun _ => ⟨hr2.same (Same.of_grown hg') ⟨hgW, fun e => a3 (Option.some.inj e).symm⟩ fun b o x hc => ⟨block_lt_of_cell hc, fun e => rf_no_byte a5 hc (Option.some.inj e)⟩, _, e60, D2, c2, rfl, hv1, hv2, hv3⟩, fun h => i10 h, fun h => i11 h, fun h => i12 h, fun _ => ⟨q, _, a1, a2, a3, a4, hrow', fun _ => ⟨hf8, e8⟩, fun h => by cases h⟩, fun _ => hf10⟩)
          · intro f ys W hI hd _ hk hgt
            obtain ⟨i0, i1, i2, i3, i4, i5, i6, i7, i8, i9, i10, i11, i12, i13, i14⟩ := hI
            obtain ⟨q, cs, a1, a2, a3, a4, a5, a6, a7⟩ := i13 (hd 10 (by decide))
            obtain ⟨hr2, v0, e60, D2, c2, rfl, hv1, hv2, hv3⟩ := i9 (hd 6 (by decide))
            obtain ⟨_, e68⟩ := i11 (hd 8 (by decide))
            obtain ⟨_, e8⟩ := a6 (hd 11 (by decide))
            have hcs : cs = rfV D2 l2.length c2 b2 := by
              rw [e60, e8] at e68
              injection e68 with e68
              have := congrArg (fun a : Array Value => a[0]?) e68
              simp at this
              exact this.symm
            subst hcs
            have e86 := (hgt 9 86 (by decide) (by kernel_rfl)).trans (i12 (hd 9 (by decide)))
            refine last_assign (vx := .bool true) rfl e86 ?_
            clear hk hgt hd i2 i3 i4 i5 i6 i7 i8 i9 i10 i11 i12 i13 i14 a6 a7 e60 e68 e8 e86
            simp only [initL, lastL, putL, Nat.reduceAdd, Act.put, List.setIfInBounds_toArray, List.set_cons_succ, List.set_cons_zero]
            rw [a1]
            have hld := loadRf a5
            obtain ⟨w7, hst, k87, hg7⟩ := storeRf (A' := D2) (n' := l2.length) (c' := c2) (bad' := b2) i1
            go_upto_region 17 with (first
              | (refine wpList_load rfl 34 (.tmp 10) rfl (.pointer (some ⟨q, 0, none⟩)) rfl hld ?_)
              | (refine wpList_store rfl 34 (.tmp 8) (.tmp 87) rfl (.pointer (some ⟨q8, 0, none⟩)) (.agg (rfV D2 l2.length c2 b2)) rfl rfl hst ?_)
              | fail)
            have hgW := hr2.lt
            have hq8W := i1.lt
            have hr7 : IsRd w7 g l2 b2 := hr2.same (Same.of_grown hg7) ⟨hgW, fun e => hg8 (Option.some.inj e)⟩ fun b o x hc => ⟨block_lt_of_cell hc, fun e => rf_no_byte i1 hc (Option.some.inj e)⟩
            have hL7 : Later w w7 := i0.grown hg7 i0.size (fun j e => by cases e; exact hq8w)
            clear hst hg7 hld i0 i1 hr2 a5
            refine (wpIn_wide (n := 0)).1 ?_
            refine wpIn_region_vals wide_wide [Pr.eq (.bool true), Pr.eq (.bool false), Pr.eq (.bool false), Pr.eq (.pointer (some ⟨g, 0, none⟩)), Pr.eq (.int .i64 (l2.length : Int)), Pr.eq (.pointer (some ⟨q8, 0, none⟩)), Pr.eq (.slice D2 (l2.length) c2), Pr.eq (.int .i64 ((l2.length) : Int)), Pr.eq (.bool false), Pr.eq (.bool false)] (by kernel_rfl) (by kernel_rfl) (by kernel_rfl) (by kernel_rfl) (by kernel_rfl) ⟨?_, ?_, ?_, ?_, ?_, ?_, ?_, ?_, ?_, ?_, trivial⟩ ?_
            · exact fun ac W hL he => stepOk_want rfl (op_move rfl (he.keep (.tmp 11) (by kernel_rfl)))
            · exact fun ac W hL he => stepOk_want rfl (op_unop rfl (he.get 0 88 (by kernel_rfl) rfl) (by first | rfl | go_simp) rfl)
            · exact fun ac W hL he => stepOk_want rfl (op_move rfl (he.get 1 89 (by kernel_rfl) rfl))
            · exact fun ac W hL he => stepOk_yes (j := 2) (t := 90) (b := false) rfl rfl (he.get 2 90 (by kernel_rfl) rfl) (op_move rfl (he.keep (.tmp 6) (by kernel_rfl)))
            · intro ac W hL he; refine stepOk_yes (j := 2) (t := 90) (b := false) rfl rfl (he.get 2 90 (by kernel_rfl) rfl) ?_; have e0 : ac.eval (.tmp 91) = .pointer (some ⟨g, 0, none⟩) := (he.get 3 91 (by kernel_rfl) rfl); exact op_callF (vs := #[.pointer (some ⟨g, 0, none⟩)]) rfl (by simp only [List.map_toArray, List.map_cons, List.map_nil, e0]) (enters_of Try.func18 (by kernel_rfl) rfl) ((left_any g l2 b2 W (hr7.later hL)).mono fun e W' ⟨hw', he'⟩ => ⟨_, he', hw' ▸ Later.refl _, rfl⟩)
            · exact fun ac W hL he => stepOk_yes (j := 2) (t := 90) (b := false) rfl rfl (he.get 2 90 (by kernel_rfl) rfl) (op_fieldAddr rfl (he.keep (.tmp 8) (by kernel_rfl)) (fieldRf0 W) rfl)
            · exact fun ac W hL he => stepOk_yes (j := 2) (t := 90) (b := false) rfl rfl (he.get 2 90 (by kernel_rfl) rfl) (op_load rfl (he.get 5 93 (by kernel_rfl) rfl) (loadSl ((k87.later hL).cell 0 |>.trans rfl)) rfl)
            · exact fun ac W hL he => stepOk_yes (j := 2) (t := 90) (b := false) rfl rfl (he.get 2 90 (by kernel_rfl) rfl) (op_len Try.underlying22 rfl (he.get 6 94 (by kernel_rfl) rfl) rfl)
            · exact fun ac W hL he => stepOk_yes (j := 2) (t := 90) (b := false) rfl rfl (he.get 2 90 (by kernel_rfl) rfl) (op_binOp rfl (he.get 4 92 (by kernel_rfl) rfl) (he.get 7 95 (by kernel_rfl) rfl) eqgI (neqI_self _ _ _) rfl)
            · exact fun ac W hL he => stepOk_want rfl (op_pick (b := false) rfl (he.get 2 90 (by kernel_rfl) rfl) (he.get 8 96 (by kernel_rfl) rfl))
            intro zs W9 hL9 hzs
            have e97 : zs 9 = .bool false := hzs 9 (by decide)
            have k89 := k87.later hL9
            have hr9 := hr7.later hL9
            have hL9w := hL7.step hL9
            clear hzs hL9 hL7 hr7 k87
            simp only [putL, Nat.reduceAdd, Act.put, List.setIfInBounds_toArray, List.set_cons_succ, List.set_cons_zero]
            rw [e97]
            go_wp2_with fail
            go_roundw
            case rel => exact ⟨i + 1, l2, b2, D2, c2, by omega, by go_num, hL9w, hr9, k89, hv1, hv2, by { have : l2.length ≤ l'.length := hl2; omega }, fun X h => hv3 X (hD X h)⟩
            case measure => simp [intOf]; omega
        · obtain rfl : i = m := by omega
          have e1 : decide ((i : Int) < (i : Int)) = false := decide_eq_false (by omega)
          clear hwv k8v hcc hcc2 hll hD hx hr
          go_upto_region 20 with fail
          rcases Nat.mod_two_eq_zero_or_one i with hp | hp
          · have e2 : (((i : Int).tmod 2) == 1) = false := by rw [Int.tmod_eq_emod_of_nonneg (by omega)]; simp; omega
            have hno := noRd_nil wr
            go_wp2_with (first
              | (go_at_call 19; refine (number_none none _ hno).mono ?_; rintro e wa ⟨hLa, rfl⟩; have hnoa := hno.later hLa)
              | (go_at_call 20; refine (truth_none none _ hnoa).mono ?_; rintro e wb ⟨hLb, rfl⟩; have hnob := hnoa.later hLb)
              | (go_at_call 21; refine (hash_none none _ hnob).mono ?_; rintro e wc ⟨hLc, rfl⟩; obtain ⟨wd, hstd, kd, hgd⟩ := storeH (a := []) (b := []) (by decide) (by decide) (Row.new wc 53 (hC [])); have hLcd : Later wc wd := ((Later.refl wc).alloc (.cells (hC []) 53)).grown hgd (by simp) (fun j e => by cases e; omega); have hnod := hnob.later (hLc.step hLcd))
              | (with_reducible refine wpList_alloc rfl 53 rfl (allocH _) ?_)
              | (refine wpList_store rfl 53 (.tmp 17) (.tmp 117) rfl (.pointer (some ⟨wc.heap.size, 0, none⟩)) (.agg (hC [])) rfl rfl hstd ?_)
              | (go_at_call 22; refine (text_none none _ hnod).mono ?_; rintro e we ⟨hLe, rfl⟩; have hnoe := hnod.later hLe)
              | (go_at_call 18; refine (left_none none _ hnoe).mono ?_; rintro e wf ⟨rfl, rfl⟩)
              | (go_at_call 23; refine (end_none none _ hnoe).mono ?_; rintro e wh ⟨hLh, rfl⟩)
              | (go_at_call 13; refine (numE_any _ _).mono ?_; rintro e w' ⟨rfl, rfl⟩)
              | (go_at_call 9; refine (wworks_any _).mono ?_; rintro e wk ⟨rfl, hLk⟩)
              | fail)
            exact HΦ.out _ _ ⟨rfl, (((((((hLv.step hLa).step hLb).step hLc).step hLcd).step hLe).step hLh).step hLk)⟩
          · have e2 : (((i : Int).tmod 2) == 1) = true := by rw [Int.tmod_eq_emod_of_nonneg (by omega)]; simp; omega
            go_upto_region 22 with fail
            have hno := noRd_void (Row.new wr 47 (rdC none 0 0 false false))
            replace hLv := hLv.alloc (.cells (rdC none 0 0 false false) 47)
            obtain ⟨q9, hq9⟩ : ∃ q, q = wr.heap.size := ⟨_, rfl⟩
            rw [← hq9] at hno ⊢
            clear hq9
            try simp only [show (.cells #[.slice none 0 0, .bool false, .bool false] 47 : Obj) = .cells (rdC none 0 0 false false) 47 from rfl]
            generalize wr.alloc (.cells (rdC none 0 0 false false) 47) = wz at *
            go_wp2_with (first
              | (go_at_call 19; refine (number_none (some ⟨q9, 0, none⟩) _ hno).mono ?_; rintro e wa ⟨hLa, rfl⟩; have hnoa := hno.later hLa)
              | (go_at_call 20; refine (truth_none (some ⟨q9, 0, none⟩) _ hnoa).mono ?_; rintro e wb ⟨hLb, rfl⟩; have hnob := hnoa.later hLb)
              | (go_at_call 21; refine (hash_none (some ⟨q9, 0, none⟩) _ hnob).mono ?_; rintro e wc ⟨hLc, rfl⟩; obtain ⟨wd, hstd, kd, hgd⟩ := storeH (a := []) (b := []) (by decide) (by decide) (Row.new wc 53 (hC [])); have hLcd : Later wc wd := ((Later.refl wc).alloc (.cells (hC []) 53)).grown hgd (by simp) (fun j e => by cases e; omega); have hnod := hnob.later (hLc.step hLcd))
              | (with_reducible refine wpList_alloc rfl 53 rfl (allocH _) ?_)
              | (refine wpList_store rfl 53 (.tmp 17) (.tmp 117) rfl (.pointer (some ⟨wc.heap.size, 0, none⟩)) (.agg (hC [])) rfl rfl hstd ?_)
              | (go_at_call 22; refine (text_none (some ⟨q9, 0, none⟩) _ hnod).mono ?_; rintro e we ⟨hLe, rfl⟩; have hnoe := hnod.later hLe)
              | (go_at_call 18; refine (left_none (some ⟨q9, 0, none⟩) _ hnoe).mono ?_; rintro e wf ⟨rfl, rfl⟩)
              | (go_at_call 23; refine (end_none (some ⟨q9, 0, none⟩) _ hnoe).mono ?_; rintro e wh ⟨hLh, rfl⟩)
              | (go_at_call 13; refine (numE_any _ _).mono ?_; rintro e w' ⟨rfl, rfl⟩)
              | (go_at_call 9; refine (wworks_any _).mono ?_; rintro e wk ⟨rfl, hLk⟩)
              | fail)
            exact HΦ.out _ _ ⟨rfl, (((((((hLv.step hLa).step hLb).step hLc).step hLcd).step hLe).step hLh).step hLk)⟩
set_option maxRecDepth 100000 in
set_option maxHeartbeats 1000000 in
theorem wireReads_big (A : Option Addr) (n ca : Nat) (B : Option Addr) (m cb : Nat) (w : World) (h : 500 < n ∨ 30 < m) :
    Calls Try.prog 4 #[.slice A n ca, .slice B m cb] w fun e w' => e = .returned (.bool true) ∧ Below w.heap.size w w' := by
  by_cases h1 : 500 < n
  · have d1 : decide ((500 : Int) < (n : Int)) = true := decide_eq_true (by omega)
    have d1' : decide (500 < n) = true := decide_eq_true h1
    go_enter Try.func4, Try.ntmps4
    go_wp2_with (first
      | (go_at_call 9; refine (wworks_any _).mono ?_; rintro e w7 ⟨rfl, hL7⟩)
      | fail)
    go_ret
    exact ⟨rfl, hL7⟩
  · have d1 : decide ((500 : Int) < (n : Int)) = false := decide_eq_false (by omega)
    have d1' : decide (500 < n) = false := decide_eq_false h1
    have d2 : decide ((30 : Int) < (m : Int)) = true := decide_eq_true (by omega)
    have d2' : decide (30 < m) = true := decide_eq_true (by omega)
    go_enter Try.func4, Try.ntmps4
    go_wp2_with (first
      | (go_at_call 9; refine (wworks_any _).mono ?_; rintro e w7 ⟨rfl, hL7⟩)
      | fail)
    go_ret
    exact ⟨rfl, hL7⟩
theorem wireReads_walk (A : Option Addr) (n ca : Nat) (l : List UInt8) (B : Option Addr) (m cb : Nat) (xs : List (Int × Int)) (w : World) (hi : InBytes w A n ca l) (hj : InAsks w B m cb xs) :
    Calls Try.prog 4 #[.slice A n ca, .slice B m cb] w fun e w' => e = .returned (.bool true) ∧ Below w.heap.size w w' := by
  have h1 := hi.cap
  have h2 := hi.most
  unfold maxLen at h2
  by_cases h : 500 < n ∨ 30 < m
  · exact wireReads_big A n ca B m cb w h
  · exact wireReads_main A n ca l B m cb xs w (by omega) (by omega) hi.len h1 (by omega) hi.rd hj.len hj.rd
end Go.Proofs.Ytmipaacobioakaa
