/- Walks, msgs: Parse. -/
import Derived.Test.YtcajhdmppfiaeaaGreatGk21
set_option linter.unusedVariables false
set_option linter.unusedSimpArgs false
namespace Go.Proofs.YtcajhdmppfiaeaaGreat
open Go.RowKit Ms
theorem below_took {B : Nat} {w0 w w' : World} {p : Nat → Prop} (hb : Below B w0 w) (hs : Same p w w') (hp : ∀ k, k < B → p k) : Below B w0 w' := hb.trans (Same.below (hs.mono fun k h => hp k h))
theorem buildReader (gr : Nat) (w : World) : (Instr.build 96 #[(0, .pointer (some ⟨gr, 0, none⟩))]).run Tryz.prog w = .ok (.agg #[.pointer (some ⟨gr, 0, none⟩)]) w := by kernel_rfl
/-- What Parse's loop keeps. -/
structure PLoop (w wl : World) (q q3 q4 gr : Nat) (A0 : Option Addr) (b : List UInt8) (R : RdS) (wr : World) : Prop where
  ok : R.bad = false
  rd : Moved wr gr A0 b R.l false
  hd : Rd wr A0 b
  row : Row wr q 29 (saidC R.s)
  k3 : Row wr q3 33 #[.int .i64 0]
  k4 : Row wr q4 96 #[.pointer (some ⟨gr, 0, none⟩)]
  kt : KT wl wr
  below : Below w.heap.size w wr
set_option maxRecDepth 100000 in
set_option maxHeartbeats 4000000 in
theorem mparse_any (A : Option Addr) (n ca : Nat) (b : List UInt8) (w : World) (hn : b.length = n) (hbn : n ≤ 140737488355328) (hr : Rd w A b) :
    Calls Tryz.prog 15 #[.slice A n ca] w fun e w' => e = .returned (.tuple #[.agg (saidC (Ms.parse b)), .int .i64 (Ms.parseE b)]) ∧ Below w.heap.size w w' := by
  refine Calls.post fun Φ HΦ => ?_
  have k2 := (Row.new w 29 (saidC (Ms.blank 0))).alloc (.cells #[.int .i64 0] 33)
  have k3 := Row.new (w.alloc (.cells (saidC (Ms.blank 0)) 29)) 33 #[.int .i64 0]
  have hb := below_new2 w (.cells (saidC (Ms.blank 0)) 29) (.cells #[.int .i64 0] 33)
  rw [World.size_alloc] at k3
  have hmf : ∀ (fn : Fn) (first cap : Array Value) (w : World), (Instr.makeFunc fn first cap).run Tryz.prog w = .ok (.func fn first cap) w := fun _ _ _ _ => rfl
  have HN := Lib.hid hn
  have HR := Lib.hid hr
  clear hn hr
  go_enter_defers Tryz.func15, Tryz.ntmps15
  go_upto_region 1 with (first
    | (with_reducible refine wpList_alloc rfl 29 rfl (allocSaid _) ?_)
    | fail)
  obtain ⟨q, hq⟩ : ∃ q, q = w.heap.size := ⟨_, rfl⟩
  obtain ⟨q3, hq3⟩ : ∃ q, q = w.heap.size + 1 := ⟨_, rfl⟩
  try simp only [World.size_alloc]
  rw [← hq3] at k3 ⊢
  rw [← hq] at k2 ⊢
  have hwq : w.heap.size ≤ q := by omega
  have hwq3 : w.heap.size ≤ q3 := by omega
  have hqq : q ≠ q3 := by omega
  clear hq hq3
  generalize (w.alloc (.cells (saidC (Ms.blank 0)) 29)).alloc (.cells #[.int .i64 0] 33) = w1 at *
  go_upto_region 2 with fail
  clear hmf
  have hrd := read_mv A n ca b w1 HN.out hbn (HR.out.later hb)
  have hq1 := k2.lt
  have hq31 := k3.lt
  go_upto_region 3 with (first
    | (go_at_call 41; refine hrd.mono ?_; clear hrd; rintro e w2 ⟨gr, A0, rfl, hmv, hd0, hA0, hgr, hb2⟩)
    | (guard_target =~ wpList _ _ _ (_ :: _) _ _; refine wpList_build rfl 96 _ rfl #[(0, .pointer (some ⟨gr, 0, none⟩))] (by simp only [List.map_toArray, List.map_cons, List.map_nil]; rfl) (buildReader _ _) ?_)
    | fail)
  have k4 := Row.new w2 96 #[.pointer (some ⟨gr, 0, none⟩)]
  have hL3 : Later w2 (w2.alloc (.cells #[.pointer (some ⟨gr, 0, none⟩)] 96)) := below_new w2 _
  have k2 := (k2.belowAll hb2).later hL3
  have k3 := (k3.belowAll hb2).later hL3
  have hbw2 : Below w.heap.size w w2 := hb.trans (hb2.mono hb.size)
  have hb3 : Below w.heap.size w (w2.alloc (.cells #[.pointer (some ⟨gr, 0, none⟩)] 96)) := hbw2.trans (hL3.below.mono hbw2.size)
  have hd3 := hd0.later hL3
  obtain ⟨D, c, hrow0, hc, hcm, hRD⟩ := hmv
  have hgr2 := hrow0.lt
  have hrow := hrow0.later hL3
  have hq2 := hb2.size
  have hA : ∀ x o, A0 = some ⟨x, o, none⟩ → b ≠ [] → x ≠ gr ∧ x ≠ q ∧ x ≠ q3 := fun x o e hne => by
    have := hA0 x o e hne
    exact ⟨this.2, by omega, by omega⟩
  obtain ⟨q4, hq4⟩ : ∃ x, x = w2.heap.size := ⟨_, rfl⟩
  rw [← hq4] at k4 hgr2 ⊢
  have hq14 : q < q4 ∧ q3 < q4 := by omega
  have hwq4 : w.heap.size ≤ q4 := by omega
  clear hb2 hd0 hb hbw2 hL3 hrow0 hA0 hq4
  generalize w2.alloc (.cells #[.pointer (some ⟨gr, 0, none⟩)] 96) = w3 at *
  have hwgr : w.heap.size ≤ gr := by omega
  have hqgr : q ≠ gr ∧ q3 ≠ gr ∧ q4 ≠ gr := ⟨by omega, by omega, by omega⟩
  have hnum := rNumber_mv gr b false 14 w3 D c hrow hc hcm (hRD w3 hd3)
  have c4 : w3.cell? ⟨q4, 0, none⟩ = some (.pointer (some ⟨gr, 0, none⟩)) := (k4.cell 0).trans rfl
  have hc3 : ∀ W, Same (fun k => k < w3.heap.size ∧ k ≠ gr) w3 W → W.cell? ⟨q3, 0, none⟩ = some (.int .i64 0) ∧ W.frozen? ⟨q3, 0, none⟩ = false := fun W hs => by
    have := k3.same hs ⟨k3.lt, hqgr.2.1⟩
    exact ⟨(this.cell 0).trans rfl, this.frozen 0⟩
  have HC3 := Lib.hid hc3
  clear hc3
  rcases Wr.numR_two b 14 (by decide) with ⟨l1, z, hz⟩ | ⟨l1, hz⟩
  rotate_left
  · rw [hz] at hnum
    have hno : Ms.parse b = Ms.blank 0 ∧ Ms.parseE b = 210 := by
      have : okB b = false := ok_bad (taken_bad _ (by show (Wr.numR b false 14).1.2 = true; rw [hz]))
      unfold Ms.parse Ms.parseE
      rw [this]
      exact ⟨rfl, rfl⟩
    have HNO0 := Lib.hid hno
    have HNUM := Lib.hid hnum
    clear hno hnum hz
    go_wp2_with (first
      | (go_at_call 42; refine HNUM.out.mono ?_; rintro e w4 ⟨hs4, rfl, hm4⟩; obtain ⟨cc, ff⟩ := HC3.out w4 hs4)
      | (go_at_call 43; refine (mmust_no _).mono ?_; rintro e w5 ⟨rfl, rfl⟩)
      | fail)
    have kF2 := (k2.same hs4 ⟨k2.lt, hqgr.1⟩).far (p := ⟨q3, 0, none⟩) hqq (.int .i64 140)
    have kF3 := (k3.same hs4 ⟨k3.lt, hqgr.2.1⟩).set 0 (.int .i64 140)
    have hbF := (below_took hb3 hs4 (fun k h => ⟨Nat.lt_of_lt_of_le h hb3.size, by omega⟩)).setCell (p := ⟨q3, 0, none⟩) hwq3 (.int .i64 140)
    have hsF := blank_wf 0
    have HNO := HNO0.out
    refine leaves_cons (f := 39) (args := #[.pointer (some ⟨q3, 0, none⟩), .func (.func 40) #[] #[.pointer (some ⟨q, 0, none⟩)]]) (by simp) (by simp [go_sem]) ?_; refine (parse_caught q q3 _ hsF _ w _ kF2 kF3 hbF hwq hwq3).mono ?_; rintro e u' w'' ⟨rfl, rfl, kQ, cE, hbG⟩; show ∃ v, _ ∧ _; exact ⟨_, results_cc rfl _ _ q q3 29 (saidC (Ms.blank 0)) _ (.int .i64 210) rfl rfl kQ Tryz.underlying29 rfl (by rw [saidC_size (blank_wf 0)]; exact infoSaid) (loadErr cE), HΦ.out _ _ ⟨by rw [HNO.1, HNO.2], hbG⟩⟩
  · rw [hz] at hnum
    have hst0 : Ms.start b = ⟨l1, false, Ms.blank z⟩ := by unfold Ms.start; rw [hz]
    have HST := Lib.hid hst0
    have HNUM := Lib.hid hnum
    clear hnum hz hst0
    go_upto_region 4 with (first
      | (go_at_call 42; refine HNUM.out.mono ?_; rintro e w4 ⟨hs4, rfl, hm4⟩; obtain ⟨cc, ff⟩ := HC3.out w4 hs4)
      | fail)
    have hm4' := Moved.trans hRD hm4
    have k2 := (k2.same hs4 ⟨k2.lt, hqgr.1⟩).far (p := ⟨q3, 0, none⟩) hqq (.int .i64 0)
    have k3 := (k3.same hs4 ⟨k3.lt, hqgr.2.1⟩).set 0 (.int .i64 0)
    have k4 := (k4.same hs4 ⟨k4.lt, hqgr.2.2⟩).far (p := ⟨q3, 0, none⟩) (by show q4 ≠ q3; omega) (.int .i64 0)
    have hb4 := (below_took hb3 hs4 (fun k h => ⟨Nat.lt_of_lt_of_le h hb3.size, by omega⟩)).setCell (p := ⟨q3, 0, none⟩) hwq3 (.int .i64 0)
    have hm5 : Moved (w4.setCell ⟨q3, 0, none⟩ (.int .i64 0)) gr A0 b l1 false := hm4'.far (p := ⟨q3, 0, none⟩) hqgr.2.1.symm _
    have hd4 : Rd w4 A0 b := hd3.same hs4 (fun x o e hne => ⟨hd3.lt e hne, (hA x o e hne).1⟩)
    have hd5 : Rd (w4.setCell ⟨q3, 0, none⟩ (.int .i64 0)) A0 b := hd4.grown (grown_set w4 q3 0 _) (fun x o e hne e2 => (hA x o e hne).2.2 (Option.some.inj e2))
    clear HNUM HC3 cc ff hs4 hm4 hm4' hb3 hrow c4 hd3 hRD hd4
    generalize w4.setCell ⟨q3, 0, none⟩ (.int .i64 0) = w5 at *
    have c3 : w5.cell? ⟨q3, 0, none⟩ = some (.int .i64 0) := (k3.cell 0).trans rfl
    go_upto_region 5 with (first
      | (go_at_call 43; refine (mmust_ok _).mono ?_; rintro e w6 ⟨rfl, rfl⟩)
      | fail)
    have c0 : w6.cell? ⟨q, 0, none⟩ = some (.int .i64 0) := (k2.cell 0).trans (saidC_kind (blank_wf 0))
    have f0 : w6.frozen? ⟨q, 0, none⟩ = false := k2.frozen 0
    go_upto_region 6 with fail
    have k2' := k2.set 0 (.int .i64 z)
    rw [saidC_setK (blank_wf 0) z] at k2'
    have k2n : Row (w6.setCell ⟨q, 0, none⟩ (.int .i64 z)) q 29 (saidC (Ms.blank z)) := k2'
    have hg6 := grown_set w6 q 0 (.int .i64 z)
    have k3 := k3.grown hg6 (fun e => hqq (Option.some.inj e).symm)
    have k4 := k4.grown hg6 (fun e => by have := Option.some.inj e; omega)
    have hb6 := hb4.setCell (p := ⟨q, 0, none⟩) hwq (.int .i64 z)
    have hm6 : Moved (w6.setCell ⟨q, 0, none⟩ (.int .i64 z)) gr A0 b l1 false := hm5.far (p := ⟨q, 0, none⟩) hqgr.1.symm _
    have hd6 : Rd (w6.setCell ⟨q, 0, none⟩ (.int .i64 z)) A0 b := hd5.grown hg6 (fun x o e hne e2 => (hA x o e hne).2.1 (Option.some.inj e2))
    clear k2' c0 f0 c3 hg6 hb4 hm5 hd5
    generalize w6.setCell ⟨q, 0, none⟩ (.int .i64 z) = w7 at *
    have ck7 : ∀ W, Later w7 W → W.cell? ⟨q, 0, none⟩ = some (.int .i64 z) := fun W hL => ((k2n.later hL).cell 0).trans (saidC_kind (blank_wf z))
    refine wp_region_list [Pr.kinds, Pr.eq (.pointer (some ⟨q, 0, none⟩)), Pr.eq (.int .i64 z), Pr.kindv z, Pr.fsl z, Pr.eq (.int .i64 ((flds z).length : Int)), Pr.eq (.int .i64 0)] (by kernel_rfl) (by kernel_rfl) (by kernel_rfl) (by kernel_rfl) ⟨?_, ?_, ?_, ?_, ?_, ?_, ?_, trivial⟩ ?_
    · intro ac W hL he; refine stepOk_want rfl ?_; exact op_callF (vs := #[]) rfl (by simp only [List.map_toArray, List.map_nil]) (enters_of Tryz.func26 (by kernel_rfl) rfl) ((kinds_any W).mono fun e W' ⟨m, he', hk', hb', _⟩ => ⟨_, he', hb', m, rfl, hk'⟩)
    · exact fun ac W hL he => stepOk_want rfl (op_fieldAddr rfl (he.keep (.tmp 2) (by kernel_rfl)) fieldS0 rfl)
    · exact fun ac W hL he => stepOk_want rfl (op_load rfl (he.get 1 24 (by kernel_rfl) rfl) (loadKindF (ck7 W hL)) rfl)
    · intro ac W hL he; refine stepOk_want rfl ?_; obtain ⟨m, e11, hK⟩ : ∃ m, ac.eval (.tmp 23) = .map (some m) ∧ KindsAt W m := he.get 0 23 (by kernel_rfl) rfl; have e13 : ac.eval (.tmp 25) = .int .i64 z := he.get 2 25 (by kernel_rfl) rfl; obtain ⟨A, hP, _, hr⟩ := kinds_look hK z; exact op_lookup rfl e11 e13 (hr W rfl) ⟨A, rfl, hP⟩
    · intro ac W hL he; refine stepOk_want rfl ?_; obtain ⟨A, e22, hP⟩ : ∃ A, ac.eval (.tmp 26) = kindV z A ∧ RdP W A (flds z) := he.get 3 26 (by kernel_rfl) rfl; exact op_field rfl e22 (fieldKind2 z A W) ⟨A, rfl, hP⟩
    · intro ac W hL he; refine stepOk_want rfl ?_; obtain ⟨A, e23, hP⟩ : ∃ A, ac.eval (.tmp 27) = .slice A (flds z).length (flds z).length ∧ RdP W A (flds z) := he.get 4 27 (by kernel_rfl) rfl; exact op_len Tryz.underlying69 rfl e23 rfl
    · exact fun ac W hL he => stepOk_want rfl (op_move rfl rfl)
    intro xs W hL hx
    obtain ⟨Ap, v4, hP⟩ : ∃ A, xs 4 = .slice A (flds z).length (flds z).length ∧ RdP W A (flds z) := hx 4 (by decide)
    have v5 : xs 5 = .int .i64 ((flds z).length : Int) := hx 5 (by decide)
    have v6 : xs 6 = .int .i64 0 := hx 6 (by decide)
    simp only [putL, Nat.reduceAdd, Act.put, List.setIfInBounds_toArray, List.set_cons_succ, List.set_cons_zero]
    rw [v4, v5, v6]
    have hbW := hb6.trans (hL.below.mono hb6.size)
    have hgr7 : gr < w7.heap.size := by obtain ⟨D', c', h', _⟩ := hm6; exact h'.lt
    have hL0 : PLoop w W q q3 q4 gr A0 b (Ms.start b) W := ⟨by rw [HST.out], by rw [HST.out]; exact hm6.same (Same.of_below hL.below) hgr7, hd6.later hL, by rw [HST.out]; exact k2n.later hL, k3.later hL, k4.later hL, KT.refl _, hbW⟩
    clear hx v4 v5 v6 hL hbW hm6 hd6 k2n k3 k4 k2 hb6 ck7 hgr7
    generalize xs 0 = y0
    generalize xs 1 = y1
    generalize xs 2 = y2
    generalize xs 3 = y3
    have hkz : (Ms.start b).s.kind = z := by rw [HST.out]; rfl
    obtain ⟨fs, hfs⟩ : ∃ fs, flds z = fs := ⟨_, rfl⟩
    have hok := (flds_ok z).1
    have hfl := flds_len z
    rw [hfs] at hP hok hfl ⊢
    have HFS : Hid (flds (Ms.start b).s.kind = fs) := Lib.hid (by rw [hkz]; exact hfs)
    have HOK := Lib.hid hok
    clear hfs hok hkz
    obtain ⟨N, hn⟩ : ∃ n, fs.length = n := ⟨_, rfl⟩
    rw [hn] at hfl ⊢
    have HNF := Lib.hid hn
    have HP := Lib.hid hP
    clear hn hP
    obtain ⟨R0, hR0⟩ : ∃ R, Ms.start b = R := ⟨_, rfl⟩
    rw [hR0] at hL0
    have hwf0 : R0.s.wf := by rw [← hR0]; exact start_wf b
    have HR0 := Lib.hid hR0
    clear hR0 HST
    go_wp2_with fail
    go_loopw [29] (fun t wr => ∃ k : Nat, k ≤ N ∧ t = .int .i64 (k : Int) ∧ PLoop w W q q3 q4 gr A0 b (taken (fs.take k) R0) wr) (fun t _ => N - (intOf t).toNat)
    case atStart => exact ⟨0, by omega, rfl, hL0⟩
    case round =>
      obtain ⟨k, hk, rfl, hz⟩ := hrel
      obtain ⟨hob, hm1, hd1, hrow, k3, k4, hkt, hbel⟩ := hz
      by_cases hlt : k < N
      · have hd : decide ((k : Int) < (N : Int)) = true := decide_eq_true (by omega)
        have hd' : decide (k < N) = true := decide_eq_true hlt
        have hkl : k < fs.length := by rw [HNF.out]; exact hlt
        obtain ⟨bP, pc, hAp, hpc, hldp⟩ := (HP.out.kt hkt).part hkl
        subst hAp
        have hsn : fs.take (k + 1) = fs.take k ++ [fs[k]] := List.take_succ_eq_append_getElem hkl
        have hmo := okF_most (List.all_eq_true.1 HOK.out _ (List.getElem_mem hkl))
        have HSN := Lib.hid hsn
        clear hsn
        generalize fs[k] = f at *
        obtain ⟨w8, hst, hpa, hL5⟩ := newPart wr hpc
        have HLP := Lib.hid hldp
        clear hldp
        obtain ⟨cs4, hr4, hpc4⟩ := hpa
        have hgrw : gr < wr.heap.size := by obtain ⟨D', c', h', _⟩ := hm1; exact h'.lt
        obtain ⟨R, hR⟩ : ∃ R, taken (fs.take k) R0 = R := ⟨_, rfl⟩
        have hwfR : R.s.wf := by rw [← hR]; exact taken_wf _ hwf0
        have hRt : take1 R f = taken (fs.take (k + 1)) R0 := by rw [HSN.out, taken_snoc, hR]
        rw [hR] at hob hm1 hrow
        obtain ⟨F, caps, hF, hE, hcall⟩ := mtake_any f cs4 gr A0 b R.l q R.s w8 hwfR hpc4 hmo (hm1.same (Same.of_below hL5.below) hgrw) (hd1.later hL5) (hrow.later hL5)
        rw [← take_pad R f hob] at hcall
        have c27 : w8.cell? ⟨wr.heap.size, 1, none⟩ = some (.func (.func F) #[] caps) := (hr4.cell 1).trans hF
        have c4 : w8.cell? ⟨q4, 0, none⟩ = some (.pointer (some ⟨gr, 0, none⟩)) := ((k4.later hL5).cell 0).trans rfl
        have k38 := k3.later hL5
        have k48 := k4.later hL5
        have hd8 := hd1.later hL5
        have hrow8 := hrow.later hL5
        have hbel8 : Below w.heap.size w w8 := hbel.trans (hL5.below.mono hbel.size)
        have hkt8 : KT W w8 := hkt.trans (fun b T cs _ h => h.later hL5)
        have hgr8 : gr < w8.heap.size := Nat.lt_of_lt_of_le hgrw hL5.size
        have hrw8 : ∃ D c, Row w8 gr 140 (rdC D R.l.length c true false) := by
          obtain ⟨D', c', h', _⟩ := hm1
          exact ⟨D', c', h'.later hL5⟩
        have HKT8 := Lib.hid hkt8
        have HRW8 := Lib.hid hrw8
        have HE := Lib.hid hE
        have HCALL := Lib.hid hcall
        have HRT := Lib.hid hRt
        clear hE hF hpc4 hr4 hL5 hrow hpc hkt hbel hkt8 hcall hm1 hd1 k3 k4 hrw8 hRt
        have hldp := HLP.out
        go_upto_region 9 with (first
          | (guard_target =~ wpList _ _ _ (_ :: _) _ _; refine wpList_load rfl 78 (.tmp 31) rfl (.pointer (some ⟨bP, k * 3, none⟩)) rfl hldp ?_)
          | (with_reducible refine wpList_alloc rfl 78 rfl (allocPart _) ?_)
          | (guard_target =~ wpList _ _ _ (_ :: _) _ _; refine wpList_store rfl 78 (.tmp 7) (.tmp 32) rfl (.pointer (some ⟨wr.heap.size, 0, none⟩)) (.agg pc) rfl rfl hst ?_)
          | fail)
        clear hldp hst
        obtain ⟨R', hR'⟩ : ∃ R', take1 R f = R' := ⟨_, rfl⟩
        have hrt := HRT.out
        rw [hR'] at HCALL hrt
        have HRT2 := Lib.hid hrt
        have HOB := Lib.hid hob
        clear hR' HRT hrt hR
        cases hbad : R'.bad
        · have hok2 : Calls Tryz.prog F (#[.agg #[.pointer (some ⟨gr, 0, none⟩)], .pointer (some ⟨q, 0, none⟩)] ++ caps) w8 fun e w' => Same (fun k => k < w8.heap.size ∧ k ≠ gr ∧ k ≠ q) w8 w' ∧ e = .returned (.tuple #[]) ∧ Moved w' gr A0 b R'.l false ∧ Row w' q 29 (saidC R'.s) := HCALL.out.mono fun e w' ⟨h1, h2⟩ => by
            rcases h2 with ⟨_, h3, h4, h5⟩ | ⟨h3, _⟩
            · exact ⟨h1, h3, h4, h5⟩
            · rw [hbad] at h3; cases h3
          have HOK2 := Lib.hid hok2
          have HBAD := Lib.hid hbad
          clear hok2 HCALL hbad
          go_wp2_with (first
            | (guard_target =~ wpList _ _ _ (_ :: _) _ _; refine wpList_callV rfl (.tmp 34) #[.tmp 35, .tmp 2] _ rfl (f := F) (bound := caps) (vs := #[.agg #[.pointer (some ⟨gr, 0, none⟩)], .pointer (some ⟨q, 0, none⟩)]) rfl (by simp only [List.map_toArray, List.map_cons, List.map_nil]; rfl) HE.out rfl ?_; refine HOK2.out.mono ?_; rintro e w9 ⟨hs9, rfl, hm9, hr9⟩; refine .inl ⟨_, rfl, ?_⟩)
            | fail)
          go_roundw
          case rel =>
            refine ⟨k + 1, by omega, by go_num, ?_⟩
            rw [← HRT2.out]
            have hgr9 : ∀ T cs b', Row w8 b' T cs → b' ≠ gr → b' ≠ q → Row w9 b' T cs := fun T cs b' h h1 h2 => h.same hs9 ⟨h.lt, h1, h2⟩
            obtain ⟨Dg, cg, hgrow⟩ := HRW8.out
            exact ⟨HBAD.out, hm9, hd8.same hs9 (fun x o e hne => ⟨hd8.lt e hne, (hA x o e hne).1, (hA x o e hne).2.1⟩), hr9, hgr9 _ _ _ k38 hqgr.2.1 (fun e => hqq e.symm), hgr9 _ _ _ k48 hqgr.2.2 (by omega), HKT8.out.trans (fun b' T cs ht h => hgr9 _ _ _ h (fun e => by subst e; have := Row.type h hgrow; subst this; revert ht; decide) (fun e => by subst e; have := Row.type h hrow8; subst this; revert ht; decide)), below_took hbel8 hs9 (fun x h => ⟨Nat.lt_of_lt_of_le h hbel8.size, by omega, by omega⟩)⟩
          case measure => simp [intOf]; omega
        · have hno2 : Calls Tryz.prog F (#[.agg #[.pointer (some ⟨gr, 0, none⟩)], .pointer (some ⟨q, 0, none⟩)] ++ caps) w8 fun e w' => Same (fun k => k < w8.heap.size ∧ k ≠ gr ∧ k ≠ q) w8 w' ∧ e = .panicked (gaveUp 210) ∧ Row w' q 29 (saidC R.s) := HCALL.out.mono fun e w' ⟨h1, h2⟩ => by
            rcases h2 with ⟨h3, _⟩ | ⟨_, h3, h4⟩
            · rw [hbad] at h3; cases h3
            · exact ⟨h1, h3, h4⟩
          have HNO2 := Lib.hid hno2
          have HBAD := Lib.hid hbad
          clear hno2 HCALL hbad
          go_wp2_with (first
            | (guard_target =~ wpList _ _ _ (_ :: _) _ _; refine wpList_callV rfl (.tmp 34) #[.tmp 35, .tmp 2] _ rfl (f := F) (bound := caps) (vs := #[.agg #[.pointer (some ⟨gr, 0, none⟩)], .pointer (some ⟨q, 0, none⟩)]) rfl (by simp only [List.map_toArray, List.map_cons, List.map_nil]; rfl) HE.out rfl ?_; refine HNO2.out.mono ?_; rintro e w9 ⟨hs9, rfl, hr9⟩; refine .inr ⟨_, rfl, ?_⟩)
            | fail)
          have kF2 := hr9
          have kF3 := k38.same hs9 ⟨k38.lt, hqgr.2.1, fun e => hqq e.symm⟩
          have hbF := below_took hbel8 hs9 (fun x h => ⟨Nat.lt_of_lt_of_le h hbel8.size, by omega, by omega⟩)
          have hsF := hwfR
          have HNO : Ms.parse b = Ms.blank 0 ∧ Ms.parseE b = 210 := by
            have : okB b = false := ok_at HFS.out (k + 1) (by rw [HR0.out, ← HRT2.out]; exact HBAD.out)
            unfold Ms.parse Ms.parseE
            rw [this]
            exact ⟨rfl, rfl⟩
          refine leaves_cons (f := 39) (args := #[.pointer (some ⟨q3, 0, none⟩), .func (.func 40) #[] #[.pointer (some ⟨q, 0, none⟩)]]) (by simp) (by simp [go_sem]) ?_; refine (parse_caught q q3 _ hsF _ w _ kF2 kF3 hbF hwq hwq3).mono ?_; rintro e u' w'' ⟨rfl, rfl, kQ, cE, hbG⟩; show ∃ v, _ ∧ _; exact ⟨_, results_cc rfl _ _ q q3 29 (saidC (Ms.blank 0)) _ (.int .i64 210) rfl rfl kQ Tryz.underlying29 rfl (by rw [saidC_size (blank_wf 0)]; exact infoSaid) (loadErr cE), HΦ.out _ _ ⟨by rw [HNO.1, HNO.2], hbG⟩⟩
      · obtain rfl : k = N := by omega
        have hd : decide ((k : Int) < (k : Int)) = false := decide_eq_false (by omega)
        have hd' : decide (k < k) = false := decide_eq_false (by omega)
        rw [List.take_of_length_le (by rw [HNF.out]; exact Nat.le_refl _)] at hob hm1 hrow
        have hfin : final b = taken fs R0 := by unfold final; rw [HFS.out, HR0.out]
        obtain ⟨R, hR⟩ : ∃ R, taken fs R0 = R := ⟨_, rfl⟩
        rw [hR] at hob hm1 hrow hfin
        have hokb : okB b = (R.l.isEmpty && Ms.right R.s) := by unfold okB; rw [hfin, hob]; rfl
        have hpa : Ms.parse b = (if okB b then R.s else Ms.blank 0) := by unfold Ms.parse; rw [hfin]
        have hwfR : R.s.wf := by rw [← hfin]; exact final_wf b
        have hrl : R.s.route.length ≤ 9223372036854775807 := by
          have := final_route b
          rw [hfin] at this
          have := HN.out
          omega
        obtain ⟨D2, c2, hrow2, hc2, hcm2, hRD2⟩ := hm1
        have hend := end_mv gr R.l false wr D2 c2 hrow2 hc2 hcm2 (hRD2 wr hd1)
        have c4 : wr.cell? ⟨q4, 0, none⟩ = some (.pointer (some ⟨gr, 0, none⟩)) := (k4.cell 0).trans rfl
        have HOKB := Lib.hid hokb
        have HPA := Lib.hid hpa
        have HR2 := Lib.hid hR
        clear hokb hpa hfin hR HR0 HFS HP hkt hrow2 hRD2 hob
        cases hem : R.l.isEmpty
        · have he : Wr.endR R.l false = ((R.l, true), 140) := by unfold Wr.endR; rw [hem]; rfl
          rw [he] at hend
          have HNO : Ms.parse b = Ms.blank 0 ∧ Ms.parseE b = 210 := by
            have : okB b = false := by rw [HOKB.out, hem]; rfl
            unfold Ms.parse Ms.parseE
            rw [this]
            exact ⟨rfl, rfl⟩
          have HNO1 := Lib.hid HNO
          have HEND := Lib.hid hend
          clear HNO hend he hem
          go_wp2_with (first
            | (go_at_call 44; refine HEND.out.mono ?_; rintro e w9 ⟨hs9, rfl, hm9⟩)
            | (go_at_call 43; refine (mmust_no _).mono ?_; rintro e wx ⟨rfl, rfl⟩)
            | fail)
          have kF2 := hrow.same hs9 ⟨hrow.lt, hqgr.1⟩
          have kF3 := k3.same hs9 ⟨k3.lt, hqgr.2.1⟩
          have hbF := below_took hbel hs9 (fun x h => ⟨Nat.lt_of_lt_of_le h hbel.size, by omega⟩)
          have hsF := hwfR
          have HNO := HNO1.out
          refine leaves_cons (f := 39) (args := #[.pointer (some ⟨q3, 0, none⟩), .func (.func 40) #[] #[.pointer (some ⟨q, 0, none⟩)]]) (by simp) (by simp [go_sem]) ?_; refine (parse_caught q q3 _ hsF _ w _ kF2 kF3 hbF hwq hwq3).mono ?_; rintro e u' w'' ⟨rfl, rfl, kQ, cE, hbG⟩; show ∃ v, _ ∧ _; exact ⟨_, results_cc rfl _ _ q q3 29 (saidC (Ms.blank 0)) _ (.int .i64 210) rfl rfl kQ Tryz.underlying29 rfl (by rw [saidC_size (blank_wf 0)]; exact infoSaid) (loadErr cE), HΦ.out _ _ ⟨by rw [HNO.1, HNO.2], hbG⟩⟩
        · have he : Wr.endR R.l false = ((R.l, false), 0) := by unfold Wr.endR; rw [hem]; rfl
          rw [he] at hend
          have hgs : ∀ W, Same (fun k => k < wr.heap.size ∧ k ≠ gr) wr W → Row W q 29 (saidC R.s) ∧ Row W q3 33 #[.int .i64 0] := fun W hs => ⟨hrow.same hs ⟨hrow.lt, hqgr.1⟩, k3.same hs ⟨k3.lt, hqgr.2.1⟩⟩
          have HGS := Lib.hid hgs
          have HEND := Lib.hid hend
          have hck := fun W => mcheck_any R.s hwfR hrl W
          clear hend he hgs
          cases hri : Ms.right R.s
          · have he : bodyE R.s = 2 := by unfold bodyE; rw [hri]; rfl
            rw [he] at hck
            have HNO1 : Hid (Ms.parse b = Ms.blank 0 ∧ Ms.parseE b = 210) := Lib.hid (by
              have : okB b = false := by rw [HOKB.out, hri]; simp
              unfold Ms.parse Ms.parseE
              rw [this]
              exact ⟨rfl, rfl⟩)
            have HCK := Lib.hid hck
            clear hck he hri hem
            go_wp2_with (first
              | (go_at_call 44; refine HEND.out.mono ?_; rintro e w9 ⟨hs9, rfl, hm9⟩; obtain ⟨kq, kq3⟩ := HGS.out w9 hs9; have hld := loadSaid hwfR kq)
              | (guard_target =~ wpList _ _ _ (_ :: _) _ _; refine wpList_loadG rfl 29 (.tmp 2) rfl (.pointer (some ⟨q, 0, none⟩)) rfl hld ?_)
              | (go_at_call 13; refine (HCK.out _).mono ?_; rintro e w10 ⟨rfl, hL10⟩)
              | (go_at_call 43; refine (mmust_no _).mono ?_; rintro e wx ⟨rfl, rfl⟩)
              | fail)
            have kF2 := kq.later hL10
            have kF3 := kq3.later hL10
            have hbF0 := below_took hbel hs9 (fun x h => ⟨Nat.lt_of_lt_of_le h hbel.size, by omega⟩)
            have hbF := hbF0.trans (hL10.below.mono hbF0.size)
            have hsF := hwfR
            have HNO := HNO1.out
            refine leaves_cons (f := 39) (args := #[.pointer (some ⟨q3, 0, none⟩), .func (.func 40) #[] #[.pointer (some ⟨q, 0, none⟩)]]) (by simp) (by simp [go_sem]) ?_; refine (parse_caught q q3 _ hsF _ w _ kF2 kF3 hbF hwq hwq3).mono ?_; rintro e u' w'' ⟨rfl, rfl, kQ, cE, hbG⟩; show ∃ v, _ ∧ _; exact ⟨_, results_cc rfl _ _ q q3 29 (saidC (Ms.blank 0)) _ (.int .i64 210) rfl rfl kQ Tryz.underlying29 rfl (by rw [saidC_size (blank_wf 0)]; exact infoSaid) (loadErr cE), HΦ.out _ _ ⟨by rw [HNO.1, HNO.2], hbG⟩⟩
          · have he : bodyE R.s = 0 := by unfold bodyE; rw [hri]; rfl
            rw [he] at hck
            have HYES : Hid (Ms.parse b = R.s ∧ Ms.parseE b = 0) := Lib.hid (by
              have : okB b = true := by rw [HOKB.out, hri, hem]; rfl
              refine ⟨by rw [HPA.out, this]; rfl, ?_⟩
              unfold Ms.parseE
              rw [this]
              rfl)
            have HCK := Lib.hid hck
            clear hck he hri hem
            go_upto_region 12 with (first
              | (go_at_call 44; refine HEND.out.mono ?_; rintro e w9 ⟨hs9, rfl, hm9⟩; obtain ⟨kq, kq3⟩ := HGS.out w9 hs9; have hld := loadSaid hwfR kq)
              | (guard_target =~ wpList _ _ _ (_ :: _) _ _; refine wpList_loadG rfl 29 (.tmp 2) rfl (.pointer (some ⟨q, 0, none⟩)) rfl hld ?_)
              | (go_at_call 13; refine (HCK.out _).mono ?_; rintro e w10 ⟨rfl, hL10⟩)
              | (go_at_call 43; refine (mmust_ok _).mono ?_; rintro e wx ⟨rfl, rfl⟩)
              | fail)
            have kq := kq.later hL10
            have kq3 := kq3.later hL10
            have hb9 := below_took hbel hs9 (fun x h => ⟨Nat.lt_of_lt_of_le h hbel.size, by omega⟩)
            have hb10 := hb9.trans (hL10.below.mono hb9.size)
            clear hld
            have hld := loadSaid hwfR kq
            obtain ⟨w11, hst, kq11, hg11⟩ := storeSaid hwfR hwfR kq
            have kq311 := kq3.grown hg11 (fun e => hqq (Option.some.inj e).symm)
            have hb11 := hb10.grown hg11 hb10.size (fun j e => by cases e; exact hwq)
            have c3 : w11.cell? ⟨q3, 0, none⟩ = some (.int .i64 0) := (kq311.cell 0).trans rfl
            have f3 : w11.frozen? ⟨q3, 0, none⟩ = false := kq311.frozen 0
            go_wp2_with (first
              | (guard_target =~ wpList _ _ _ (_ :: _) _ _; refine wpList_load rfl 29 (.tmp 2) rfl (.pointer (some ⟨q, 0, none⟩)) rfl hld ?_)
              | (guard_target =~ wpList _ _ _ (_ :: _) _ _; refine wpList_store rfl 29 (.tmp 2) (.tmp 48) rfl (.pointer (some ⟨q, 0, none⟩)) (.agg (saidC R.s)) rfl rfl hst ?_)
              | fail)
            refine leaves_cons (f := 39) (args := #[.pointer (some ⟨q3, 0, none⟩), .func (.func 40) #[] #[.pointer (some ⟨q, 0, none⟩)]]) (by simp) (by simp [go_sem]) ?_
            refine (mcaught_idle _ _ _).mono ?_
            rintro e u' w'' ⟨rfl, rfl, rfl⟩
            have kQ := kq11.far (p := ⟨q3, 0, none⟩) hqq (.int .i64 0)
            have k3' := kq311.set 0 (.int .i64 0)
            have cE := (k3'.cell 0).trans rfl
            have hb12 := hb11.setCell (p := ⟨q3, 0, none⟩) hwq3 (.int .i64 0)
            show ∃ v, _ ∧ _
            exact ⟨_, results_cc rfl _ _ q q3 29 (saidC R.s) _ (.int .i64 0) rfl rfl kQ Tryz.underlying29 rfl (by rw [saidC_size hwfR]; exact infoSaid) (loadErr cE), HΦ.out _ _ ⟨by rw [HYES.out.1, HYES.out.2], hb12⟩⟩
end Go.Proofs.YtcajhdmppfiaeaaGreat
