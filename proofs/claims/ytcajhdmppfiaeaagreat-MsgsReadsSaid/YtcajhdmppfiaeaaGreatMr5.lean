/- Joined texts: Gk19 Gk20 Gk21 Gk22 Gk23 Gk24 Gl1 Gl2 Gl3 Gl4 Gl5. -/
import Derived.Test.YtcajhdmppfiaeaaGreatMr4
import Derived.WalkKit
import Derived.WalkSpells
import Derived.Deep.MidRow
import Derived.Deep.WholeRow
import Derived.Deep.Draws
import Derived.Maps.AppendAt
import Derived.Lib.Hide
import Derived.OwnWalk
import Derived.Laws.IdiomStrings
import Derived.Lib.SlBytesConst
import Derived.Orders
import Derived.Shelf.Abstract
import Derived.OrdersIn
import Derived.RangeFuncCalls
import Derived.RangeFuncNested
import Derived.RangeFuncBound
import Derived.RangeFuncLeaves
import Derived.Shelf.RegionOpen
import Derived.OwnWalkIn
import Derived.TacticsInMore
import Derived.LoopNIn
import Derived.LoopIn
import Derived.WalkMore
import Derived.Test.YtcajhdmppfiaeaaGreatRows
import Derived.ProofKit
import Derived.OpenShut
import Derived.Deep.Slices
import Derived.Deep.Matrix
import Derived.WalkLawsBesides
import Derived.BigRegion
import Derived.BigQuiet
import Derived.Lib.AppendZeros
import Derived.Laws.BitsAllLaws
import Derived.IntWalk
import Derived.Laws.CopyOwn
import Derived.Outline
import Derived.Deep.RegionWith
import Derived.Deep.RegionHeld3
import Derived.Stop.BytesEq
import Derived.ShutString
import Derived.ChangeOld
import Derived.Lib.ConvBytes
import Derived.Recover
import Derived.Defers
import Derived.Deep.Cut
import Derived.Deep.DeepCutAuto
import Derived.Deep.QuietTactic
import Derived.Laws.EntriesVeiled
import Derived.StillTailTactics
import Derived.Maps.OwnOps
import Derived.Lib.QuoteBits
import Derived.Lib.AppendStr
import Derived.Deep.Grids
import Derived.Deep.Strs
import Derived.MapKept
import Derived.Laws.StructEq
import Derived.ChangeKeysEq
import Derived.Stop.Joined
set_option linter.unusedVariables false
set_option linter.unusedSimpArgs false
namespace Go.Proofs.YtcajhdmppfiaeaaGreat
open Go.RowKit Ms
structure LLoop (w wl : World) (gw g : Nat) (fs : List Fld) (s : Said) (k : Nat) (wr : World) : Prop where
  wrr : ∃ r, IsWr wr gw r (Wr.bytes s.kind.toNat ++ Ms.laid (fs.take k) s) ∧ ∀ k, r = some k → w.heap.size ≤ k
  row : Row wr g 29 (saidC s)
  kt : KT wl wr
  below : Below w.heap.size w wr
set_option maxRecDepth 100000 in
set_option maxHeartbeats 4000000 in
theorem mbody_yes (s : Said) (hs : s.wf) (w : World) (hr : Ms.right s = true) : Calls Tryz.prog 10 #[.agg (saidC s)] w fun e w' => ∃ v, e = .returned (.tuple #[v, .int .i64 0]) ∧ Own 5 w' w.heap.size v (body s) ∧ Below w.heap.size w w' := by
  have k1 := Row.new w 29 (saidC s)
  have hb := below_new w (.cells (saidC s) 29)
  have hbx := boxSaid hs w
  have he : bodyE s = 0 := by unfold bodyE; rw [hr]; rfl
  have hro := right_route hr
  obtain ⟨hkk, _⟩ := right_facts hr
  have HLAY := Lib.hid (right_lay hr)
  obtain ⟨bd, hbd⟩ : ∃ l, body s = l := ⟨_, rfl⟩
  rw [hbd]
  have HBD := Lib.hid hbd
  clear hbd
  go_enter Tryz.func10, Tryz.ntmps10
  go_upto_region 1 with fail
  obtain ⟨g, hg⟩ : ∃ q, q = w.heap.size := ⟨_, rfl⟩
  rw [← hg] at k1 ⊢
  have hgw : w.heap.size ≤ g := by rw [hg]; exact Nat.le_refl _
  clear hbx hg
  generalize w.alloc (.cells (saidC s) 29) = w1 at *
  have hld := loadSaid hs k1
  have hck := mcheck_any s hs (by omega) w1
  rw [he] at hck
  have HB := Lib.hid hb
  clear hb he hr
  refine wp_region_lit ?_
  refine wpList_load rfl 29 (.tmp 1) rfl (.pointer (some ⟨g, 0, none⟩)) rfl hld ?_
  clear hld
  go_upto_region 4 with (first
    | (go_at_call 13; refine hck.mono ?_; clear hck; rintro e w2 ⟨rfl, hL2⟩)
    | fail)
  have k2 := k1.later hL2
  have hb2 : Below w.heap.size w w2 := HB.out.trans (hL2.below.mono HB.out.size)
  clear k1 HB hL2
  have hnew := new_any w2
  have HNEW := Lib.hid hnew
  clear hnew
  go_upto_region 5 with (first
    | (go_at_call 24; refine HNEW.out.mono ?_; rintro e w3 ⟨rfl, hwr, hL3, hlt3⟩)
    | fail)
  have k3 := k2.later hL3
  have hb3 : Below w.heap.size w w3 := hb2.trans (hL3.below.mono hb2.size)
  have hg2 := k2.lt
  obtain ⟨gw, hgw3⟩ : ∃ q, q = w2.heap.size := ⟨_, rfl⟩
  have hgwB : w.heap.size ≤ gw := by rw [hgw3]; exact hb2.size
  rw [← hgw3] at hwr hlt3 hg2 ⊢
  clear HNEW hL3 k2 hb2 hgw3
  obtain ⟨c, hcn⟩ : ∃ c : Nat, s.kind = (c : Int) := ⟨s.kind.toNat, by omega⟩
  have c0 : w3.cell? ⟨g, 0, none⟩ = some (.int .i64 (c : Int)) := (k3.cell 0).trans ((saidC_kind hs).trans (by rw [hcn]))
  have hL : Later w3 (w3.alloc (.cells #[numV (c : Int)] 2)) := (Later.refl w3).alloc _
  have hnum := wNumber_any gw none [] (some ⟨w3.heap.size, 0, none⟩) 1 1 [(c : Int)] _ rfl (by decide) (by decide) (RdV.row (Row.new w3 2 #[numV (c : Int)])) (fun b o e _ => by injection e with e; injection e with e _; exact ⟨by omega, by simp⟩) (hwr.later hL)
  have hnw : [(c : Int)].any Wr.wrong = false := by
    simp [Wr.wrong]
    omega
  have hnb : [] ++ Wr.nums [(c : Int)] = Wr.bytes s.kind.toNat := by rw [hcn]; simp [Wr.nums, Wr.nb_nat]
  rw [hnb] at hnum
  have k4 := k3.later hL
  have hb4 : Below w.heap.size w (w3.alloc (.cells #[numV (c : Int)] 2)) := hb3.trans (hL.below.mono hb3.size)
  have hwr4 := hwr.later hL
  have HNUM := Lib.hid hnum
  have HNW := Lib.hid hnw
  clear hnum hnw hnb hL k3 hb3 hwr
  go_upto_region 6 with (first
    | (go_at_call 25; refine HNUM.out.mono ?_; rintro e w4 (⟨h, _⟩ | ⟨_, rfl, r, hw4, hwt⟩); · (rw [HNW.out] at h; cases h))
    | fail)
  have k5 := Row.wrote hwr4 hwt k4 (by decide) (by decide)
  obtain ⟨hb5, hr5⟩ := below_wrote hb4 hb4.size hgwB (fun k e => by cases e) hwt
  clear HNUM HNW hwt hwr4 k4 hb4 c0 hlt3
  obtain ⟨kd, hkd⟩ : ∃ z, s.kind = z := ⟨_, rfl⟩
  have k5k := saidC_kind hs
  rw [hkd] at k5k hcn
  refine wp_region_list [Pr.kinds, Pr.eq (.pointer (some ⟨g, 0, none⟩)), Pr.eq (.int .i64 kd), Pr.kindv kd, Pr.fsl kd, Pr.eq (.int .i64 ((flds kd).length : Int)), Pr.eq (.int .i64 0)] (by kernel_rfl) (by kernel_rfl) (by kernel_rfl) (by kernel_rfl) ⟨?_, ?_, ?_, ?_, ?_, ?_, ?_, trivial⟩ ?_
  · intro ac W hL he; refine stepOk_want rfl ?_; exact op_callF (vs := #[]) rfl (by simp only [List.map_toArray, List.map_nil]) (enters_of Tryz.func26 (by kernel_rfl) rfl) ((kinds_any W).mono fun e W' ⟨m, he', hk', hb', _⟩ => ⟨_, he', hb', m, rfl, hk'⟩)
  · exact fun ac W hL he => stepOk_want rfl (op_fieldAddr rfl (he.keep (.tmp 1) (by kernel_rfl)) fieldS0 rfl)
  · exact fun ac W hL he => stepOk_want rfl (op_load rfl (he.get 1 20 (by kernel_rfl) rfl) (loadKindF (((k5.later hL).cell 0).trans k5k)) rfl)
  · intro ac W hL he; refine stepOk_want rfl ?_; obtain ⟨m, e11, hK⟩ : ∃ m, ac.eval (.tmp 19) = .map (some m) ∧ KindsAt W m := he.get 0 19 (by kernel_rfl) rfl; have e13 : ac.eval (.tmp 21) = .int .i64 kd := he.get 2 21 (by kernel_rfl) rfl; obtain ⟨A, hP, _, hr⟩ := kinds_look hK kd; exact op_lookup rfl e11 e13 (hr W rfl) ⟨A, rfl, hP⟩
  · intro ac W hL he; refine stepOk_want rfl ?_; obtain ⟨A, e22, hP⟩ : ∃ A, ac.eval (.tmp 22) = kindV kd A ∧ RdP W A (flds kd) := he.get 3 22 (by kernel_rfl) rfl; exact op_field rfl e22 (fieldKind2 kd A W) ⟨A, rfl, hP⟩
  · intro ac W hL he; refine stepOk_want rfl ?_; obtain ⟨A, e23, hP⟩ : ∃ A, ac.eval (.tmp 23) = .slice A (flds kd).length (flds kd).length ∧ RdP W A (flds kd) := he.get 4 23 (by kernel_rfl) rfl; exact op_len Tryz.underlying69 rfl e23 rfl
  · exact fun ac W hL he => stepOk_want rfl (op_move rfl rfl)
  intro xs W hL hx
  obtain ⟨A, v4, hP⟩ : ∃ A, xs 4 = .slice A (flds kd).length (flds kd).length ∧ RdP W A (flds kd) := hx 4 (by decide)
  have v5 : xs 5 = .int .i64 ((flds kd).length : Int) := hx 5 (by decide)
  have v6 : xs 6 = .int .i64 0 := hx 6 (by decide)
  simp only [putL, Nat.reduceAdd, Act.put, List.setIfInBounds_toArray, List.set_cons_succ, List.set_cons_zero]
  rw [v4, v5, v6]
  have hkW := k5.later hL
  have hwW := hw4.later hL
  have hbW := hb5.trans (hL.below.mono hb5.size)
  clear hx v4 v5 v6 k5 hw4 hb5 hL k5k
  generalize xs 0 = y0
  generalize xs 1 = y1
  generalize xs 2 = y2
  generalize xs 3 = y3
  rw [hkd] at HLAY
  obtain ⟨fs, hfs⟩ : ∃ fs, flds kd = fs := ⟨_, rfl⟩
  have hbody : body s = Wr.bytes s.kind.toNat ++ Ms.laid fs s := by unfold body; rw [hkd, hfs]
  have hok := (flds_ok kd).1
  have hfh := flds_hash kd
  have hfl := flds_len kd
  rw [hfs] at hP HLAY hok hfh hfl ⊢
  have HBODY := Lib.hid hbody
  have HFH := Lib.hid hfh
  clear hbody hfs hfh hok
  obtain ⟨n, hn⟩ : ∃ n, fs.length = n := ⟨_, rfl⟩
  rw [hn] at hfl ⊢
  have HN := Lib.hid hn
  have HKD := Lib.hid hkd
  clear hn hkd
  have hL0 : LLoop w W gw g fs s 0 W := ⟨⟨r, by simpa [Ms.laid] using hwW, hr5⟩, hkW, KT.refl _, hbW⟩
  have HP := Lib.hid hP
  clear hP hkW hwW hbW hr5
  go_wp2_with fail
  go_loopw [25] (fun t wr => ∃ k : Nat, k ≤ n ∧ t = .int .i64 (k : Int) ∧ LLoop w W gw g fs s k wr) (fun t _ => n - (intOf t).toNat)
  case atStart => exact ⟨0, by omega, rfl, hL0⟩
  case round =>
    obtain ⟨k, hk, rfl, hz⟩ := hrel
    obtain ⟨⟨r1, hw1, hr1⟩, hrow, hkt, hbel⟩ := hz
    by_cases hlt : k < n
    · have hd : decide ((k : Int) < (n : Int)) = true := decide_eq_true (by omega)
      have hd' : decide (k < n) = true := decide_eq_true hlt
      have hkl : k < fs.length := by rw [HN.out]; exact hlt
      obtain ⟨bP, pc, hA, hpc, hldp⟩ := (HP.out.kt hkt).part hkl
      subst hA
      have hsn : fs.take (k + 1) = fs.take k ++ [fs[k]] := List.take_succ_eq_append_getElem hkl
      have hlo := HLAY.out _ (List.getElem_mem hkl)
      have hll := laid_le hs hro (fs.take k) (fun f hf => HFH.out f (List.mem_of_mem_take hf))
      have hb9 := Wr.bytes_le s.kind.toNat
      have hl0 : (Wr.bytes s.kind.toNat ++ Ms.laid (fs.take k) s).length ≤ 100000000 := by
        rw [List.length_append]
        rw [List.length_take] at hll
        omega
      have HSN := Lib.hid hsn
      have HL0 := Lib.hid hl0
      clear hsn hl0 hll hb9
      generalize fs[k] = f at *
      obtain ⟨w5, hst, hpa, hL5⟩ := newPart wr hpc
      have HLP := Lib.hid hldp
      clear hldp
      obtain ⟨cs4, hr4, hpc4⟩ := hpa
      have hrow5 := hrow.later hL5
      have hw5 := hw1.later hL5
      obtain ⟨F, caps, hF, hE, hcall⟩ := lay_any f cs4 gw r1 _ g s w5 hs hpc4 hlo HL0.out hw5 hrow5
      have c27 : w5.cell? ⟨wr.heap.size, 0, none⟩ = some (.func (.func F) #[] caps) := (hr4.cell 0).trans hF
      have HCALL := Lib.hid hcall
      have HE := Lib.hid hE
      have hbel5 : Below w.heap.size w w5 := hbel.trans (hL5.below.mono hbel.size)
      have hkt5 : KT W w5 := hkt.trans (fun b T cs _ h => h.later hL5)
      have HKT5 := Lib.hid hkt5
      clear hcall hE hF hpc4 hr4 hL5 hrow hpc hkt hbel hw1 hkt5
      have hldp := HLP.out
      go_upto_region 9 with (first
        | (guard_target =~ wpList _ _ _ (_ :: _) _ _; refine wpList_load rfl 78 (.tmp 27) rfl (.pointer (some ⟨bP, k * 3, none⟩)) rfl hldp ?_)
        | (with_reducible refine wpList_alloc rfl 78 rfl (allocPart _) ?_)
        | (guard_target =~ wpList _ _ _ (_ :: _) _ _; refine wpList_store rfl 78 (.tmp 7) (.tmp 28) rfl (.pointer (some ⟨wr.heap.size, 0, none⟩)) (.agg pc) rfl rfl hst ?_)
        | fail)
      clear hldp hst
      go_wp2_with (first
        | (guard_target =~ wpList _ _ _ (_ :: _) _ _; refine wpList_callV rfl (.tmp 30) #[.tmp 31, .tmp 1] _ rfl (f := F) (bound := caps) (vs := #[.pointer (some ⟨gw, 0, none⟩), .pointer (some ⟨g, 0, none⟩)]) rfl (by simp only [List.map_toArray, List.map_cons, List.map_nil]; rfl) HE.out rfl ?_; refine HCALL.out.mono ?_; rintro e w6 ⟨rfl, r', hw6, hwt⟩; refine .inl ⟨_, rfl, ?_⟩)
        | fail)
      go_roundw
      case rel =>
        obtain ⟨hb6, hr6⟩ := below_wrote hbel5 hbel5.size hgwB hr1 hwt
        exact ⟨k + 1, by omega, by go_num, ⟨⟨r', by rw [HSN.out, laid_snoc, ← List.append_assoc]; exact hw6, hr6⟩, Row.wrote hw5 hwt hrow5 (by decide) (by decide), HKT5.out.trans (KT.wrote hw5 hwt), hb6⟩⟩
      case measure => simp [intOf]; omega
    · obtain rfl : k = n := by omega
      have hd : decide ((k : Int) < (k : Int)) = false := decide_eq_false (by omega)
      have hd' : decide (k < k) = false := decide_eq_false (by omega)
      rw [List.take_of_length_le (by rw [HN.out]; exact Nat.le_refl _), ← HBODY.out, HBD.out] at hw1
      have hln : bd.length ≤ 140737488355328 := by
        rw [← HBD.out, HBODY.out, List.length_append]
        have h1 := Wr.bytes_le s.kind.toNat
        have h2 := laid_le hs hro fs HFH.out
        have h3 := HN.out
        omega
      have hall := all_any gw r1 bd wr hln hw1
      have HALL := Lib.hid hall
      clear hall hln
      go_wp2_with (first
        | (go_at_call 27; refine HALL.out.mono ?_; rintro e w6 ⟨v, rfl, hown, hL6⟩)
        | fail)
      go_ret2
      exact ⟨v, rfl, hown.mono hbel.size, hbel.trans (hL6.below.mono hbel.size)⟩
theorem mbody_any (s : Said) (hs : s.wf) (hm : s.route.length ≤ 9223372036854775807) (w : World) : Calls Tryz.prog 10 #[.agg (saidC s)] w fun e w' => ∃ v, e = .returned (.tuple #[v, .int .i64 (bodyE s)]) ∧ Own 5 w' w.heap.size v (bodyR s) ∧ Below w.heap.size w w' := by
  unfold bodyE bodyR
  cases h : Ms.right s
  · exact (mbody_no s hs hm w h).mono fun e w' ⟨h1, h2⟩ => ⟨_, h1, Own.nil _ _ _, h2⟩
  · exact mbody_yes s hs w h
end Go.Proofs.YtcajhdmppfiaeaaGreat
namespace Go.Proofs.YtcajhdmppfiaeaaGreat
open Go.RowKit Ms
theorem mcaught_idle (e c : Value) (w : World) :
    CallsD Tryz.prog 39 #[e, c] .returning w fun e u' w' => e = .returned (.tuple #[]) ∧ u' = .returning ∧ w' = w := by
  refine callsD_of_wpS Tryz.func39 rfl fun c₀ cs hu => ?_
  apply wpS_seq
  apply wpS_region
  simp [wpOpsS, go_sem, recoverD, hu, Tryz.ntmps39, Exit.thenS]
  refine wpS_of_wp ?_
  change Code.wp _ _ _ { tmps := #[e, c, undef, undef, .nilIface, .nilIface, undef, undef, undef, undef, undef, undef, undef, undef], defers := [] } w
  go_wp2
  exact ⟨rfl, _, by rw [← hu], _, results_none rfl _ _ _, rfl, rfl, rfl⟩
set_option maxRecDepth 100000 in
set_option maxHeartbeats 1000000 in
theorem mcaught_panicking (q : Nat) (F : FuncId) (caps : Array Value) (n x : Int) (older : List PanicEntry) (w : World) (hq : Row w q 33 #[.int .i64 x]) (R : World → World → Prop) (hen : ∀ w, (callFunc F caps).run Tryz.prog w = .ok (.enter F caps) w)
    (hcl : ∀ W, Row W q 33 #[.int .i64 n] → w.grownBy W (some q) → Calls Tryz.prog F caps W fun e W' => e = .returned (.tuple #[]) ∧ R W W') :
    CallsD Tryz.prog 39 #[.pointer (some ⟨q, 0, none⟩), .func (.func F) #[] caps] (.panicking ({ v := .iface 33 (.int .i64 n), recovered := false } :: older)) w fun e u' w' =>
      e = .returned (.tuple #[]) ∧ u' = .panicking ({ v := .iface 33 (.int .i64 n), recovered := true } :: older) ∧ ∃ W, Row W q 33 #[.int .i64 n] ∧ w.grownBy W (some q) ∧ R W w' := by
  refine callsD_of_wpS Tryz.func39 rfl fun c₀ cs hu => ?_
  have hset := hq.set 0 (.int .i64 n)
  have hgr := grown_set w q 0 (.int .i64 n)
  have hcq := hcl _ hset hgr
  have hc : w.cell? ⟨q, 0, none⟩ = some (.int .i64 x) := (hq.cell 0).trans rfl
  have hf : w.frozen? ⟨q, 0, none⟩ = false := hq.frozen 0
  have HS := Lib.hid hset
  have HG := Lib.hid hgr
  have HC := Lib.hid hcq
  clear hcl hset hgr hcq hq
  have HE := Lib.hid hc
  have HF := Lib.hid hf
  clear hc hf
  apply wpS_seq
  apply wpS_region
  simp [wpOpsS, go_sem, recoverD, hu, Tryz.ntmps39, Exit.thenS]
  refine wpS_of_wp ?_
  change Code.wp _ _ _ { tmps := #[.pointer (some ⟨q, 0, none⟩), .func (.func F) #[] caps, undef, undef, .iface 33 (.int .i64 n), .iface 33 (.int .i64 n), undef, undef, undef, undef, undef, undef, undef, undef], defers := [] } w
  have hc := HE.out
  have hf := HF.out
  have hta : ∀ w : World, (Instr.typeAssert (.iface 33 (.int .i64 n)) 20 33 false).run Tryz.prog w = .ok (.int .i64 n) w := fun w => by kernel_rfl
  go_upto_region 3 with fail
  go_wp2_with fail
  refine HC.out.mono ?_
  rintro e w2 ⟨rfl, hR⟩
  go_wp2_with fail
  exact ⟨rfl, _, rfl, _, results_none rfl _ _ _, rfl, rfl, _, HS.out, HG.out, hR⟩
theorem buildSaid0 (w : World) : (Instr.build 29 #[]).run Tryz.prog w = .ok (.agg (saidC (Ms.blank 0))) w := by kernel_rfl
set_option maxRecDepth 100000 in
theorem parseFn_any (q : Nat) (s : Said) (hs : s.wf) (w : World) (hr : Row w q 29 (saidC s)) :
    Calls Tryz.prog 40 #[.pointer (some ⟨q, 0, none⟩)] w fun e w' => e = .returned (.tuple #[]) ∧ Row w' q 29 (saidC (Ms.blank 0)) ∧ w.grownBy w' (some q) := by
  obtain ⟨w', hst, h1, h2⟩ := storeSaid hs (blank_wf 0) hr
  have H1 := Lib.hid h1
  have H2 := Lib.hid h2
  clear h1 h2 hr
  go_enter Tryz.func40, Tryz.ntmps40
  go_wp2_with (first
    | (guard_target =~ wpList _ _ _ (_ :: _) _ _; refine wpList_build rfl 29 _ rfl #[] rfl (buildSaid0 _) ?_)
    | (guard_target =~ wpList _ _ _ (_ :: _) _ _; refine wpList_store rfl 29 (.tmp 0) (.tmp 1) rfl (.pointer (some ⟨q, 0, none⟩)) (.agg (saidC (Ms.blank 0))) rfl rfl hst ?_)
    | fail)
  go_end0
  exact ⟨rfl, H1.out, H2.out⟩
theorem parse_caught (q q3 : Nat) (s : Said) (hs : s.wf) (x : Int) (w W : World) (k2 : Row W q 29 (saidC s)) (k3 : Row W q3 33 #[.int .i64 x]) (hbW : Below w.heap.size w W) (hq : w.heap.size ≤ q) (hq3 : w.heap.size ≤ q3) :
    CallsD Tryz.prog 39 #[.pointer (some ⟨q3, 0, none⟩), .func (.func 40) #[] #[.pointer (some ⟨q, 0, none⟩)]] (.panicking (gaveUp 210)) W fun e u' w' =>
      e = .returned (.tuple #[]) ∧ u' = .panicking ({ v := .iface 33 (.int .i64 210), recovered := true } :: []) ∧ Row w' q 29 (saidC (Ms.blank 0)) ∧ w'.cell? ⟨q3, 0, none⟩ = some (.int .i64 210) ∧ Below w.heap.size w w' := by
  have hne : q ≠ q3 := fun e => by subst e; exact absurd (Row.type k2 k3) (by decide)
  refine (mcaught_panicking q3 40 #[.pointer (some ⟨q, 0, none⟩)] 210 x [] W k3 (fun X X' => Row X' q 29 (saidC (Ms.blank 0)) ∧ X.grownBy X' (some q)) (enters_of Tryz.func40 (by kernel_rfl) rfl _) (fun X hX hg => (parseFn_any q s hs X (k2.grown hg (fun e => hne (Option.some.inj e)))))).mono ?_
  rintro e u' w' ⟨rfl, rfl, X, hk, hg, hp, hg2⟩
  have hb1 : Below w.heap.size w X := hbW.grown hg hbW.size (fun j e => by cases e; exact hq3)
  exact ⟨rfl, rfl, hp, ((hk.grown hg2 (fun e => hne (Option.some.inj e).symm)).cell 0).trans rfl, hb1.grown hg2 hb1.size (fun j e => by cases e; exact hq)⟩
theorem results_cc {P : Program} {fn : Func} {p q : Tmp} {ty t2 : TypeId} (h : fn.results = #[.cell p ty, .cell q t2]) (tmps : Array Value) (w : World) (g g2 : Nat) (t : TypeId) (cs : Array Value) (d : TypeDesc) (v : Value)
    (hp : tmps.getD p undef = .pointer (some ⟨g, 0, none⟩)) (hq : tmps.getD q undef = .pointer (some ⟨g2, 0, none⟩)) (hg : Row w g t cs)
    (hu : P.underlying ty = some d) (hd : (match d with | .struct _ | .array _ _ => true | _ => false) = true) (hi : (P.info? ty).map (·.size) = some cs.size) (h2 : (loadVar t2 ⟨g2, 0, none⟩).run P w = .ok v w) :
    (results fn tmps).run P w = .ok (.tuple #[.agg cs, v]) w := by
  have hp' : tmps[p]?.getD undef = .pointer (some ⟨g, 0, none⟩) := by simpa using hp
  have hq' : tmps[q]?.getD undef = .pointer (some ⟨g2, 0, none⟩) := by simpa using hq
  simp [results, h, hp', hq', asAddr, run_loadVar_row w g t ty cs (0, 0) d hg hu hd hi, h2]
theorem loadErr {w : World} {g : Nat} {n : Int} (h : w.cell? ⟨g, 0, none⟩ = some (.int .i64 n)) : (loadVar 33 ⟨g, 0, none⟩).run Tryz.prog w = .ok (.int .i64 n) w := by
  go_simp
end Go.Proofs.YtcajhdmppfiaeaaGreat
namespace Go.Proofs.YtcajhdmppfiaeaaGreat
open Go.RowKit Ms
namespace Ms
theorem take1_bad {r : RdS} (h : r.bad = true) (f : Fld) : (take1 r f).bad = true := by
  cases f with
  | num j m => show (Wr.numR r.l r.bad m).1.2 = true; rw [h]; simp [Wr.numR]
  | hash j => show (Wr.hashR r.l r.bad).1.2 = true; rw [h]; simp [Wr.hashR]
  | route => show (Wr.textR r.l r.bad 512).1.2 = true; rw [h]; simp [Wr.textR]
theorem taken_bad : ∀ (l : List Fld) {r : RdS}, r.bad = true → (taken l r).bad = true
  | [], _, h => h
  | f :: l, r, h => taken_bad l (take1_bad h f)
theorem taken_app (l m : List Fld) (r : RdS) : taken (l ++ m) r = taken m (taken l r) := List.foldl_append
theorem taken_snoc (l : List Fld) (f : Fld) (r : RdS) : taken (l ++ [f]) r = take1 (taken l r) f := taken_app l [f] r
theorem take1_wf {r : RdS} (h : r.s.wf) (f : Fld) : (take1 r f).s.wf := by
  cases f with
  | num j m => exact Said.setN_wf h _ _
  | hash j => exact Said.setH_wf h _ _ (pad32_len _)
  | route => exact Said.setR_wf h _
theorem taken_wf : ∀ (l : List Fld) {r : RdS}, r.s.wf → (taken l r).s.wf
  | [], _, h => h
  | f :: l, r, h => taken_wf l (take1_wf h f)
theorem start_wf (b : List UInt8) : (start b).s.wf := blank_wf _
theorem final_wf (b : List UInt8) : (final b).s.wf := taken_wf _ (start_wf b)
theorem parse_wf (b : List UInt8) : (parse b).wf := by
  unfold parse
  split
  · exact final_wf b
  · exact blank_wf 0
theorem ok_bad {b : List UInt8} (h : (final b).bad = true) : okB b = false := by
  unfold okB
  rw [h]
  rfl
theorem ok_at {b : List UInt8} {fs : List Fld} (hf : flds (start b).s.kind = fs) (k : Nat) (h : (taken (fs.take k) (start b)).bad = true) : okB b = false := by
  apply ok_bad
  unfold final
  rw [hf, ← List.take_append_drop k fs, taken_app]
  exact taken_bad _ h
theorem take_pad (r : RdS) (f : Fld) (hb : r.bad = false) : r = ⟨r.l, false, r.s⟩ := by
  cases r
  simp at hb
  subst hb
  rfl
theorem route_le (r : RdS) (n : Nat) (hl : r.l.length ≤ n) (hr : r.s.route.length ≤ n) (f : Fld) : (take1 r f).l.length ≤ n ∧ (take1 r f).s.route.length ≤ n := by
  cases f with
  | num j m =>
    refine ⟨?_, ?_⟩
    · show (Wr.numR r.l r.bad m).1.1.length ≤ n
      unfold Wr.numR
      split
      · exact hl
      · split
        · exact hl
        · split
          · rw [List.length_drop]; omega
          · exact hl
    · have : (r.s.setN j (Wr.numR r.l r.bad m).2.1).route = r.s.route := by
        rcases j with _ | _ | _ | _ | _ | _ | _ | _ | _ | _ | _ | _ | j <;> rfl
      show (r.s.setN j (Wr.numR r.l r.bad m).2.1).route.length ≤ n
      rw [this]; exact hr
  | hash j =>
    refine ⟨?_, ?_⟩
    · show (Wr.hashR r.l r.bad).1.1.length ≤ n
      unfold Wr.hashR
      split
      · exact hl
      · split
        · rw [List.length_drop]; omega
        · exact hl
    · have : (r.s.setH j (pad32 (Wr.hashR r.l r.bad).2.1)).route = r.s.route := by
        rcases j with _ | _ | _ | _ | _ | _ | _ | _ | _ | j <;> rfl
      show (r.s.setH j (pad32 (Wr.hashR r.l r.bad).2.1)).route.length ≤ n
      rw [this]; exact hr
  | route =>
    refine ⟨?_, ?_⟩
    · show (Wr.textR r.l r.bad 512).1.1.length ≤ n
      unfold Wr.textR Wr.textRest
      split
      · exact hl
      · split
        · exact hl
        · split
          · rw [List.length_drop, List.length_drop]; omega
          · exact hl
    · show (Wr.textR r.l r.bad 512).2.1.length ≤ n
      unfold Wr.textR Wr.textAt
      split
      · exact Nat.zero_le _
      · split
        · exact Nat.zero_le _
        · split
          · rw [List.length_take, List.length_drop]; omega
          · exact Nat.zero_le _
theorem routes_le : ∀ (l : List Fld) (r : RdS) (n : Nat), r.l.length ≤ n → r.s.route.length ≤ n → (taken l r).s.route.length ≤ n
  | [], _, _, _, h => h
  | f :: l, r, n, h1, h2 => by
    obtain ⟨h3, h4⟩ := route_le r n h1 h2 f
    exact routes_le l _ n h3 h4
theorem final_route (b : List UInt8) : (final b).s.route.length ≤ b.length := by
  refine routes_le _ _ _ ?_ (Nat.zero_le _)
  show (Wr.numR b false 14).1.1.length ≤ b.length
  unfold Wr.numR
  split
  · exact Nat.le_refl _
  · split
    · exact Nat.le_refl _
    · split
      · rw [List.length_drop]; omega
      · exact Nat.le_refl _
theorem okF_most {f : Fld} (h : okF f = true) : mostOk f := by
  cases f with
  | num j m => simp [okF] at h; exact h.2
  | hash j => trivial
  | route => trivial
end Ms
end Go.Proofs.YtcajhdmppfiaeaaGreat
namespace Go.Proofs.YtcajhdmppfiaeaaGreat
open Go.RowKit Ms
theorem below_took {B : Nat} {w0 w w' : World} {p : Nat → Prop} (hb : Below B w0 w) (hs : Same p w w') (hp : ∀ k, k < B → p k) : Below B w0 w' := hb.trans (Same.below (hs.mono fun k h => hp k h))
theorem buildReader (gr : Nat) (w : World) : (Instr.build 96 #[(0, .pointer (some ⟨gr, 0, none⟩))]).run Tryz.prog w = .ok (.agg #[.pointer (some ⟨gr, 0, none⟩)]) w := by kernel_rfl
structure PLoop (w wl : World) (q q3 q4 gr : Nat) (A0 : Option Addr) (b : List UInt8) (R : RdS) (wr : World) : Prop where
  ok : R.bad = false
  rd : Moved wr gr A0 b R.l false
  hd : Rd wr A0 b
  row : Row wr q 29 (saidC R.s)
  k3 : Row wr q3 33 #[.int .i64 0]
  k4 : Row wr q4 96 #[.pointer (some ⟨gr, 0, none⟩)]
  kt : KT wl wr
  below : Below w.heap.size w wr
set_option maxRecDepth 100000 in
set_option maxHeartbeats 4000000 in
theorem mparse_any (A : Option Addr) (n ca : Nat) (b : List UInt8) (w : World) (hn : b.length = n) (hbn : n ≤ 140737488355328) (hr : Rd w A b) :
    Calls Tryz.prog 15 #[.slice A n ca] w fun e w' => e = .returned (.tuple #[.agg (saidC (Ms.parse b)), .int .i64 (Ms.parseE b)]) ∧ Below w.heap.size w w' := by
  refine Calls.post fun Φ HΦ => ?_
  have k2 := (Row.new w 29 (saidC (Ms.blank 0))).alloc (.cells #[.int .i64 0] 33)
  have k3 := Row.new (w.alloc (.cells (saidC (Ms.blank 0)) 29)) 33 #[.int .i64 0]
  have hb := below_new2 w (.cells (saidC (Ms.blank 0)) 29) (.cells #[.int .i64 0] 33)
  rw [World.size_alloc] at k3
  have hmf : ∀ (fn : Fn) (first cap : Array Value) (w : World), (Instr.makeFunc fn first cap).run Tryz.prog w = .ok (.func fn first cap) w := fun _ _ _ _ => rfl
  have HN := Lib.hid hn
  have HR := Lib.hid hr
  clear hn hr
  go_enter_defers Tryz.func15, Tryz.ntmps15
  go_upto_region 1 with (first
    | (with_reducible refine wpList_alloc rfl 29 rfl (allocSaid _) ?_)
    | fail)
  obtain ⟨q, hq⟩ : ∃ q, q = w.heap.size := ⟨_, rfl⟩
  obtain ⟨q3, hq3⟩ : ∃ q, q = w.heap.size + 1 := ⟨_, rfl⟩
  try simp only [World.size_alloc]
  rw [← hq3] at k3 ⊢
  rw [← hq] at k2 ⊢
  have hwq : w.heap.size ≤ q := by omega
  have hwq3 : w.heap.size ≤ q3 := by omega
  have hqq : q ≠ q3 := by omega
  clear hq hq3
  generalize (w.alloc (.cells (saidC (Ms.blank 0)) 29)).alloc (.cells #[.int .i64 0] 33) = w1 at *
  go_upto_region 2 with fail
  clear hmf
  have hrd := read_mv A n ca b w1 HN.out hbn (HR.out.later hb)
  have hq1 := k2.lt
  have hq31 := k3.lt
  go_upto_region 3 with (first
    | (go_at_call 41; refine hrd.mono ?_; clear hrd; rintro e w2 ⟨gr, A0, rfl, hmv, hd0, hA0, hgr, hb2⟩)
    | (guard_target =~ wpList _ _ _ (_ :: _) _ _; refine wpList_build rfl 96 _ rfl #[(0, .pointer (some ⟨gr, 0, none⟩))] (by simp only [List.map_toArray, List.map_cons, List.map_nil]; rfl) (buildReader _ _) ?_)
    | fail)
  have k4 := Row.new w2 96 #[.pointer (some ⟨gr, 0, none⟩)]
  have hL3 : Later w2 (w2.alloc (.cells #[.pointer (some ⟨gr, 0, none⟩)] 96)) := below_new w2 _
  have k2 := (k2.belowAll hb2).later hL3
  have k3 := (k3.belowAll hb2).later hL3
  have hbw2 : Below w.heap.size w w2 := hb.trans (hb2.mono hb.size)
  have hb3 : Below w.heap.size w (w2.alloc (.cells #[.pointer (some ⟨gr, 0, none⟩)] 96)) := hbw2.trans (hL3.below.mono hbw2.size)
  have hd3 := hd0.later hL3
  obtain ⟨D, c, hrow0, hc, hcm, hRD⟩ := hmv
  have hgr2 := hrow0.lt
  have hrow := hrow0.later hL3
  have hq2 := hb2.size
  have hA : ∀ x o, A0 = some ⟨x, o, none⟩ → b ≠ [] → x ≠ gr ∧ x ≠ q ∧ x ≠ q3 := fun x o e hne => by
    have := hA0 x o e hne
    exact ⟨this.2, by omega, by omega⟩
  obtain ⟨q4, hq4⟩ : ∃ x, x = w2.heap.size := ⟨_, rfl⟩
  rw [← hq4] at k4 hgr2 ⊢
  have hq14 : q < q4 ∧ q3 < q4 := by omega
  have hwq4 : w.heap.size ≤ q4 := by omega
  clear hb2 hd0 hb hbw2 hL3 hrow0 hA0 hq4
  generalize w2.alloc (.cells #[.pointer (some ⟨gr, 0, none⟩)] 96) = w3 at *
  have hwgr : w.heap.size ≤ gr := by omega
  have hqgr : q ≠ gr ∧ q3 ≠ gr ∧ q4 ≠ gr := ⟨by omega, by omega, by omega⟩
  have hnum := rNumber_mv gr b false 14 w3 D c hrow hc hcm (hRD w3 hd3)
  have c4 : w3.cell? ⟨q4, 0, none⟩ = some (.pointer (some ⟨gr, 0, none⟩)) := (k4.cell 0).trans rfl
  have hc3 : ∀ W, Same (fun k => k < w3.heap.size ∧ k ≠ gr) w3 W → W.cell? ⟨q3, 0, none⟩ = some (.int .i64 0) ∧ W.frozen? ⟨q3, 0, none⟩ = false := fun W hs => by
    have := k3.same hs ⟨k3.lt, hqgr.2.1⟩
    exact ⟨(this.cell 0).trans rfl, this.frozen 0⟩
  have HC3 := Lib.hid hc3
  clear hc3
  rcases Wr.numR_two b 14 (by decide) with ⟨l1, z, hz⟩ | ⟨l1, hz⟩
  rotate_left
  · rw [hz] at hnum
    have hno : Ms.parse b = Ms.blank 0 ∧ Ms.parseE b = 210 := by
      have : okB b = false := ok_bad (taken_bad _ (by show (Wr.numR b false 14).1.2 = true; rw [hz]))
      unfold Ms.parse Ms.parseE
      rw [this]
      exact ⟨rfl, rfl⟩
    have HNO0 := Lib.hid hno
    have HNUM := Lib.hid hnum
    clear hno hnum hz
    go_wp2_with (first
      | (go_at_call 42; refine HNUM.out.mono ?_; rintro e w4 ⟨hs4, rfl, hm4⟩; obtain ⟨cc, ff⟩ := HC3.out w4 hs4)
      | (go_at_call 43; refine (mmust_no _).mono ?_; rintro e w5 ⟨rfl, rfl⟩)
      | fail)
    have kF2 := (k2.same hs4 ⟨k2.lt, hqgr.1⟩).far (p := ⟨q3, 0, none⟩) hqq (.int .i64 140)
    have kF3 := (k3.same hs4 ⟨k3.lt, hqgr.2.1⟩).set 0 (.int .i64 140)
    have hbF := (below_took hb3 hs4 (fun k h => ⟨Nat.lt_of_lt_of_le h hb3.size, by omega⟩)).setCell (p := ⟨q3, 0, none⟩) hwq3 (.int .i64 140)
    have hsF := blank_wf 0
    have HNO := HNO0.out
    refine leaves_cons (f := 39) (args := #[.pointer (some ⟨q3, 0, none⟩), .func (.func 40) #[] #[.pointer (some ⟨q, 0, none⟩)]]) (by simp) (by simp [go_sem]) ?_; refine (parse_caught q q3 _ hsF _ w _ kF2 kF3 hbF hwq hwq3).mono ?_; rintro e u' w'' ⟨rfl, rfl, kQ, cE, hbG⟩; show ∃ v, _ ∧ _; exact ⟨_, results_cc rfl _ _ q q3 29 (saidC (Ms.blank 0)) _ (.int .i64 210) rfl rfl kQ Tryz.underlying29 rfl (by rw [saidC_size (blank_wf 0)]; exact infoSaid) (loadErr cE), HΦ.out _ _ ⟨by rw [HNO.1, HNO.2], hbG⟩⟩
  · rw [hz] at hnum
    have hst0 : Ms.start b = ⟨l1, false, Ms.blank z⟩ := by unfold Ms.start; rw [hz]
    have HST := Lib.hid hst0
    have HNUM := Lib.hid hnum
    clear hnum hz hst0
    go_upto_region 4 with (first
      | (go_at_call 42; refine HNUM.out.mono ?_; rintro e w4 ⟨hs4, rfl, hm4⟩; obtain ⟨cc, ff⟩ := HC3.out w4 hs4)
      | fail)
    have hm4' := Moved.trans hRD hm4
    have k2 := (k2.same hs4 ⟨k2.lt, hqgr.1⟩).far (p := ⟨q3, 0, none⟩) hqq (.int .i64 0)
    have k3 := (k3.same hs4 ⟨k3.lt, hqgr.2.1⟩).set 0 (.int .i64 0)
    have k4 := (k4.same hs4 ⟨k4.lt, hqgr.2.2⟩).far (p := ⟨q3, 0, none⟩) (by show q4 ≠ q3; omega) (.int .i64 0)
    have hb4 := (below_took hb3 hs4 (fun k h => ⟨Nat.lt_of_lt_of_le h hb3.size, by omega⟩)).setCell (p := ⟨q3, 0, none⟩) hwq3 (.int .i64 0)
    have hm5 : Moved (w4.setCell ⟨q3, 0, none⟩ (.int .i64 0)) gr A0 b l1 false := hm4'.far (p := ⟨q3, 0, none⟩) hqgr.2.1.symm _
    have hd4 : Rd w4 A0 b := hd3.same hs4 (fun x o e hne => ⟨hd3.lt e hne, (hA x o e hne).1⟩)
    have hd5 : Rd (w4.setCell ⟨q3, 0, none⟩ (.int .i64 0)) A0 b := hd4.grown (grown_set w4 q3 0 _) (fun x o e hne e2 => (hA x o e hne).2.2 (Option.some.inj e2))
    clear HNUM HC3 cc ff hs4 hm4 hm4' hb3 hrow c4 hd3 hRD hd4
    generalize w4.setCell ⟨q3, 0, none⟩ (.int .i64 0) = w5 at *
    have c3 : w5.cell? ⟨q3, 0, none⟩ = some (.int .i64 0) := (k3.cell 0).trans rfl
    go_upto_region 5 with (first
      | (go_at_call 43; refine (mmust_ok _).mono ?_; rintro e w6 ⟨rfl, rfl⟩)
      | fail)
    have c0 : w6.cell? ⟨q, 0, none⟩ = some (.int .i64 0) := (k2.cell 0).trans (saidC_kind (blank_wf 0))
    have f0 : w6.frozen? ⟨q, 0, none⟩ = false := k2.frozen 0
    go_upto_region 6 with fail
    have k2' := k2.set 0 (.int .i64 z)
    rw [saidC_setK (blank_wf 0) z] at k2'
    have k2n : Row (w6.setCell ⟨q, 0, none⟩ (.int .i64 z)) q 29 (saidC (Ms.blank z)) := k2'
    have hg6 := grown_set w6 q 0 (.int .i64 z)
    have k3 := k3.grown hg6 (fun e => hqq (Option.some.inj e).symm)
    have k4 := k4.grown hg6 (fun e => by have := Option.some.inj e; omega)
    have hb6 := hb4.setCell (p := ⟨q, 0, none⟩) hwq (.int .i64 z)
    have hm6 : Moved (w6.setCell ⟨q, 0, none⟩ (.int .i64 z)) gr A0 b l1 false := hm5.far (p := ⟨q, 0, none⟩) hqgr.1.symm _
    have hd6 : Rd (w6.setCell ⟨q, 0, none⟩ (.int .i64 z)) A0 b := hd5.grown hg6 (fun x o e hne e2 => (hA x o e hne).2.1 (Option.some.inj e2))
    clear k2' c0 f0 c3 hg6 hb4 hm5 hd5
    generalize w6.setCell ⟨q, 0, none⟩ (.int .i64 z) = w7 at *
    have ck7 : ∀ W, Later w7 W → W.cell? ⟨q, 0, none⟩ = some (.int .i64 z) := fun W hL => ((k2n.later hL).cell 0).trans (saidC_kind (blank_wf z))
    refine wp_region_list [Pr.kinds, Pr.eq (.pointer (some ⟨q, 0, none⟩)), Pr.eq (.int .i64 z), Pr.kindv z, Pr.fsl z, Pr.eq (.int .i64 ((flds z).length : Int)), Pr.eq (.int .i64 0)] (by kernel_rfl) (by kernel_rfl) (by kernel_rfl) (by kernel_rfl) ⟨?_, ?_, ?_, ?_, ?_, ?_, ?_, trivial⟩ ?_
    · intro ac W hL he; refine stepOk_want rfl ?_; exact op_callF (vs := #[]) rfl (by simp only [List.map_toArray, List.map_nil]) (enters_of Tryz.func26 (by kernel_rfl) rfl) ((kinds_any W).mono fun e W' ⟨m, he', hk', hb', _⟩ => ⟨_, he', hb', m, rfl, hk'⟩)
    · exact fun ac W hL he => stepOk_want rfl (op_fieldAddr rfl (he.keep (.tmp 2) (by kernel_rfl)) fieldS0 rfl)
    · exact fun ac W hL he => stepOk_want rfl (op_load rfl (he.get 1 24 (by kernel_rfl) rfl) (loadKindF (ck7 W hL)) rfl)
    · intro ac W hL he; refine stepOk_want rfl ?_; obtain ⟨m, e11, hK⟩ : ∃ m, ac.eval (.tmp 23) = .map (some m) ∧ KindsAt W m := he.get 0 23 (by kernel_rfl) rfl; have e13 : ac.eval (.tmp 25) = .int .i64 z := he.get 2 25 (by kernel_rfl) rfl; obtain ⟨A, hP, _, hr⟩ := kinds_look hK z; exact op_lookup rfl e11 e13 (hr W rfl) ⟨A, rfl, hP⟩
    · intro ac W hL he; refine stepOk_want rfl ?_; obtain ⟨A, e22, hP⟩ : ∃ A, ac.eval (.tmp 26) = kindV z A ∧ RdP W A (flds z) := he.get 3 26 (by kernel_rfl) rfl; exact op_field rfl e22 (fieldKind2 z A W) ⟨A, rfl, hP⟩
    · intro ac W hL he; refine stepOk_want rfl ?_; obtain ⟨A, e23, hP⟩ : ∃ A, ac.eval (.tmp 27) = .slice A (flds z).length (flds z).length ∧ RdP W A (flds z) := he.get 4 27 (by kernel_rfl) rfl; exact op_len Tryz.underlying69 rfl e23 rfl
    · exact fun ac W hL he => stepOk_want rfl (op_move rfl rfl)
    intro xs W hL hx
    obtain ⟨Ap, v4, hP⟩ : ∃ A, xs 4 = .slice A (flds z).length (flds z).length ∧ RdP W A (flds z) := hx 4 (by decide)
    have v5 : xs 5 = .int .i64 ((flds z).length : Int) := hx 5 (by decide)
    have v6 : xs 6 = .int .i64 0 := hx 6 (by decide)
    simp only [putL, Nat.reduceAdd, Act.put, List.setIfInBounds_toArray, List.set_cons_succ, List.set_cons_zero]
    rw [v4, v5, v6]
    have hbW := hb6.trans (hL.below.mono hb6.size)
    have hgr7 : gr < w7.heap.size := by obtain ⟨D', c', h', _⟩ := hm6; exact h'.lt
    have hL0 : PLoop w W q q3 q4 gr A0 b (Ms.start b) W := ⟨by rw [HST.out], by rw [HST.out]; exact hm6.same (Same.of_below hL.below) hgr7, hd6.later hL, by rw [HST.out]; exact k2n.later hL, k3.later hL, k4.later hL, KT.refl _, hbW⟩
    clear hx v4 v5 v6 hL hbW hm6 hd6 k2n k3 k4 k2 hb6 ck7 hgr7
    generalize xs 0 = y0
    generalize xs 1 = y1
    generalize xs 2 = y2
    generalize xs 3 = y3
    have hkz : (Ms.start b).s.kind = z := by rw [HST.out]; rfl
    obtain ⟨fs, hfs⟩ : ∃ fs, flds z = fs := ⟨_, rfl⟩
    have hok := (flds_ok z).1
    have hfl := flds_len z
    rw [hfs] at hP hok hfl ⊢
    have HFS : Hid (flds (Ms.start b).s.kind = fs) := Lib.hid (by rw [hkz]; exact hfs)
    have HOK := Lib.hid hok
    clear hfs hok hkz
    obtain ⟨N, hn⟩ : ∃ n, fs.length = n := ⟨_, rfl⟩
    rw [hn] at hfl ⊢
    have HNF := Lib.hid hn
    have HP := Lib.hid hP
    clear hn hP
    obtain ⟨R0, hR0⟩ : ∃ R, Ms.start b = R := ⟨_, rfl⟩
    rw [hR0] at hL0
    have hwf0 : R0.s.wf := by rw [← hR0]; exact start_wf b
    have HR0 := Lib.hid hR0
    clear hR0 HST
    go_wp2_with fail
    go_loopw [29] (fun t wr => ∃ k : Nat, k ≤ N ∧ t = .int .i64 (k : Int) ∧ PLoop w W q q3 q4 gr A0 b (taken (fs.take k) R0) wr) (fun t _ => N - (intOf t).toNat)
    case atStart => exact ⟨0, by omega, rfl, hL0⟩
    case round =>
      obtain ⟨k, hk, rfl, hz⟩ := hrel
      obtain ⟨hob, hm1, hd1, hrow, k3, k4, hkt, hbel⟩ := hz
      by_cases hlt : k < N
      · have hd : decide ((k : Int) < (N : Int)) = true := decide_eq_true (by omega)
        have hd' : decide (k < N) = true := decide_eq_true hlt
        have hkl : k < fs.length := by rw [HNF.out]; exact hlt
        obtain ⟨bP, pc, hAp, hpc, hldp⟩ := (HP.out.kt hkt).part hkl
        subst hAp
        have hsn : fs.take (k + 1) = fs.take k ++ [fs[k]] := List.take_succ_eq_append_getElem hkl
        have hmo := okF_most (List.all_eq_true.1 HOK.out _ (List.getElem_mem hkl))
        have HSN := Lib.hid hsn
        clear hsn
        generalize fs[k] = f at *
        obtain ⟨w8, hst, hpa, hL5⟩ := newPart wr hpc
        have HLP := Lib.hid hldp
        clear hldp
        obtain ⟨cs4, hr4, hpc4⟩ := hpa
        have hgrw : gr < wr.heap.size := by obtain ⟨D', c', h', _⟩ := hm1; exact h'.lt
        obtain ⟨R, hR⟩ : ∃ R, taken (fs.take k) R0 = R := ⟨_, rfl⟩
        have hwfR : R.s.wf := by rw [← hR]; exact taken_wf _ hwf0
        have hRt : take1 R f = taken (fs.take (k + 1)) R0 := by rw [HSN.out, taken_snoc, hR]
        rw [hR] at hob hm1 hrow
        obtain ⟨F, caps, hF, hE, hcall⟩ := mtake_any f cs4 gr A0 b R.l q R.s w8 hwfR hpc4 hmo (hm1.same (Same.of_below hL5.below) hgrw) (hd1.later hL5) (hrow.later hL5)
        rw [← take_pad R f hob] at hcall
        have c27 : w8.cell? ⟨wr.heap.size, 1, none⟩ = some (.func (.func F) #[] caps) := (hr4.cell 1).trans hF
        have c4 : w8.cell? ⟨q4, 0, none⟩ = some (.pointer (some ⟨gr, 0, none⟩)) := ((k4.later hL5).cell 0).trans rfl
        have k38 := k3.later hL5
        have k48 := k4.later hL5
        have hd8 := hd1.later hL5
        have hrow8 := hrow.later hL5
        have hbel8 : Below w.heap.size w w8 := hbel.trans (hL5.below.mono hbel.size)
        have hkt8 : KT W w8 := hkt.trans (fun b T cs _ h => h.later hL5)
        have hgr8 : gr < w8.heap.size := Nat.lt_of_lt_of_le hgrw hL5.size
        have hrw8 : ∃ D c, Row w8 gr 140 (rdC D R.l.length c true false) := by
          obtain ⟨D', c', h', _⟩ := hm1
          exact ⟨D', c', h'.later hL5⟩
        have HKT8 := Lib.hid hkt8
        have HRW8 := Lib.hid hrw8
        have HE := Lib.hid hE
        have HCALL := Lib.hid hcall
        have HRT := Lib.hid hRt
        clear hE hF hpc4 hr4 hL5 hrow hpc hkt hbel hkt8 hcall hm1 hd1 k3 k4 hrw8 hRt
        have hldp := HLP.out
        go_upto_region 9 with (first
          | (guard_target =~ wpList _ _ _ (_ :: _) _ _; refine wpList_load rfl 78 (.tmp 31) rfl (.pointer (some ⟨bP, k * 3, none⟩)) rfl hldp ?_)
          | (with_reducible refine wpList_alloc rfl 78 rfl (allocPart _) ?_)
          | (guard_target =~ wpList _ _ _ (_ :: _) _ _; refine wpList_store rfl 78 (.tmp 7) (.tmp 32) rfl (.pointer (some ⟨wr.heap.size, 0, none⟩)) (.agg pc) rfl rfl hst ?_)
          | fail)
        clear hldp hst
        obtain ⟨R', hR'⟩ : ∃ R', take1 R f = R' := ⟨_, rfl⟩
        have hrt := HRT.out
        rw [hR'] at HCALL hrt
        have HRT2 := Lib.hid hrt
        have HOB := Lib.hid hob
        clear hR' HRT hrt hR
        cases hbad : R'.bad
        · have hok2 : Calls Tryz.prog F (#[.agg #[.pointer (some ⟨gr, 0, none⟩)], .pointer (some ⟨q, 0, none⟩)] ++ caps) w8 fun e w' => Same (fun k => k < w8.heap.size ∧ k ≠ gr ∧ k ≠ q) w8 w' ∧ e = .returned (.tuple #[]) ∧ Moved w' gr A0 b R'.l false ∧ Row w' q 29 (saidC R'.s) := HCALL.out.mono fun e w' ⟨h1, h2⟩ => by
            rcases h2 with ⟨_, h3, h4, h5⟩ | ⟨h3, _⟩
            · exact ⟨h1, h3, h4, h5⟩
            · rw [hbad] at h3; cases h3
          have HOK2 := Lib.hid hok2
          have HBAD := Lib.hid hbad
          clear hok2 HCALL hbad
          go_wp2_with (first
            | (guard_target =~ wpList _ _ _ (_ :: _) _ _; refine wpList_callV rfl (.tmp 34) #[.tmp 35, .tmp 2] _ rfl (f := F) (bound := caps) (vs := #[.agg #[.pointer (some ⟨gr, 0, none⟩)], .pointer (some ⟨q, 0, none⟩)]) rfl (by simp only [List.map_toArray, List.map_cons, List.map_nil]; rfl) HE.out rfl ?_; refine HOK2.out.mono ?_; rintro e w9 ⟨hs9, rfl, hm9, hr9⟩; refine .inl ⟨_, rfl, ?_⟩)
            | fail)
          go_roundw
          case rel =>
            refine ⟨k + 1, by omega, by go_num, ?_⟩
            rw [← HRT2.out]
            have hgr9 : ∀ T cs b', Row w8 b' T cs → b' ≠ gr → b' ≠ q → Row w9 b' T cs := fun T cs b' h h1 h2 => h.same hs9 ⟨h.lt, h1, h2⟩
            obtain ⟨Dg, cg, hgrow⟩ := HRW8.out
            exact ⟨HBAD.out, hm9, hd8.same hs9 (fun x o e hne => ⟨hd8.lt e hne, (hA x o e hne).1, (hA x o e hne).2.1⟩), hr9, hgr9 _ _ _ k38 hqgr.2.1 (fun e => hqq e.symm), hgr9 _ _ _ k48 hqgr.2.2 (by omega), HKT8.out.trans (fun b' T cs ht h => hgr9 _ _ _ h (fun e => by subst e; have := Row.type h hgrow; subst this; revert ht; decide) (fun e => by subst e; have := Row.type h hrow8; subst this; revert ht; decide)), below_took hbel8 hs9 (fun x h => ⟨Nat.lt_of_lt_of_le h hbel8.size, by omega, by omega⟩)⟩
          case measure => simp [intOf]; omega
        · have hno2 : Calls Tryz.prog F (#[.agg #[.pointer (some ⟨gr, 0, none⟩)], .pointer (some ⟨q, 0, none⟩)] ++ caps) w8 fun e w' => Same (fun k => k < w8.heap.size ∧ k ≠ gr ∧ k ≠ q) w8 w' ∧ e = .panicked (gaveUp 210) ∧ Row w' q 29 (saidC R.s) := HCALL.out.mono fun e w' ⟨h1, h2⟩ => by
            rcases h2 with ⟨h3, _⟩ | ⟨_, h3, h4⟩
            · rw [hbad] at h3; cases h3
            · exact ⟨h1, h3, h4⟩
          have HNO2 := Lib.hid hno2
          have HBAD := Lib.hid hbad
          clear hno2 HCALL hbad
          go_wp2_with (first
            | (guard_target =~ wpList _ _ _ (_ :: _) _ _; refine wpList_callV rfl (.tmp 34) #[.tmp 35, .tmp 2] _ rfl (f := F) (bound := caps) (vs := #[.agg #[.pointer (some ⟨gr, 0, none⟩)], .pointer (some ⟨q, 0, none⟩)]) rfl (by simp only [List.map_toArray, List.map_cons, List.map_nil]; rfl) HE.out rfl ?_; refine HNO2.out.mono ?_; rintro e w9 ⟨hs9, rfl, hr9⟩; refine .inr ⟨_, rfl, ?_⟩)
            | fail)
          have kF2 := hr9
          have kF3 := k38.same hs9 ⟨k38.lt, hqgr.2.1, fun e => hqq e.symm⟩
          have hbF := below_took hbel8 hs9 (fun x h => ⟨Nat.lt_of_lt_of_le h hbel8.size, by omega, by omega⟩)
          have hsF := hwfR
          have HNO : Ms.parse b = Ms.blank 0 ∧ Ms.parseE b = 210 := by
            have : okB b = false := ok_at HFS.out (k + 1) (by rw [HR0.out, ← HRT2.out]; exact HBAD.out)
            unfold Ms.parse Ms.parseE
            rw [this]
            exact ⟨rfl, rfl⟩
          refine leaves_cons (f := 39) (args := #[.pointer (some ⟨q3, 0, none⟩), .func (.func 40) #[] #[.pointer (some ⟨q, 0, none⟩)]]) (by simp) (by simp [go_sem]) ?_; refine (parse_caught q q3 _ hsF _ w _ kF2 kF3 hbF hwq hwq3).mono ?_; rintro e u' w'' ⟨rfl, rfl, kQ, cE, hbG⟩; show ∃ v, _ ∧ _; exact ⟨_, results_cc rfl _ _ q q3 29 (saidC (Ms.blank 0)) _ (.int .i64 210) rfl rfl kQ Tryz.underlying29 rfl (by rw [saidC_size (blank_wf 0)]; exact infoSaid) (loadErr cE), HΦ.out _ _ ⟨by rw [HNO.1, HNO.2], hbG⟩⟩
      · obtain rfl : k = N := by omega
        have hd : decide ((k : Int) < (k : Int)) = false := decide_eq_false (by omega)
        have hd' : decide (k < k) = false := decide_eq_false (by omega)
        rw [List.take_of_length_le (by rw [HNF.out]; exact Nat.le_refl _)] at hob hm1 hrow
        have hfin : final b = taken fs R0 := by unfold final; rw [HFS.out, HR0.out]
        obtain ⟨R, hR⟩ : ∃ R, taken fs R0 = R := ⟨_, rfl⟩
        rw [hR] at hob hm1 hrow hfin
        have hokb : okB b = (R.l.isEmpty && Ms.right R.s) := by unfold okB; rw [hfin, hob]; rfl
        have hpa : Ms.parse b = (if okB b then R.s else Ms.blank 0) := by unfold Ms.parse; rw [hfin]
        have hwfR : R.s.wf := by rw [← hfin]; exact final_wf b
        have hrl : R.s.route.length ≤ 9223372036854775807 := by
          have := final_route b
          rw [hfin] at this
          have := HN.out
          omega
        obtain ⟨D2, c2, hrow2, hc2, hcm2, hRD2⟩ := hm1
        have hend := end_mv gr R.l false wr D2 c2 hrow2 hc2 hcm2 (hRD2 wr hd1)
        have c4 : wr.cell? ⟨q4, 0, none⟩ = some (.pointer (some ⟨gr, 0, none⟩)) := (k4.cell 0).trans rfl
        have HOKB := Lib.hid hokb
        have HPA := Lib.hid hpa
        have HR2 := Lib.hid hR
        clear hokb hpa hfin hR HR0 HFS HP hkt hrow2 hRD2 hob
        cases hem : R.l.isEmpty
        · have he : Wr.endR R.l false = ((R.l, true), 140) := by unfold Wr.endR; rw [hem]; rfl
          rw [he] at hend
          have HNO : Ms.parse b = Ms.blank 0 ∧ Ms.parseE b = 210 := by
            have : okB b = false := by rw [HOKB.out, hem]; rfl
            unfold Ms.parse Ms.parseE
            rw [this]
            exact ⟨rfl, rfl⟩
          have HNO1 := Lib.hid HNO
          have HEND := Lib.hid hend
          clear HNO hend he hem
          go_wp2_with (first
            | (go_at_call 44; refine HEND.out.mono ?_; rintro e w9 ⟨hs9, rfl, hm9⟩)
            | (go_at_call 43; refine (mmust_no _).mono ?_; rintro e wx ⟨rfl, rfl⟩)
            | fail)
          have kF2 := hrow.same hs9 ⟨hrow.lt, hqgr.1⟩
          have kF3 := k3.same hs9 ⟨k3.lt, hqgr.2.1⟩
          have hbF := below_took hbel hs9 (fun x h => ⟨Nat.lt_of_lt_of_le h hbel.size, by omega⟩)
          have hsF := hwfR
          have HNO := HNO1.out
          refine leaves_cons (f := 39) (args := #[.pointer (some ⟨q3, 0, none⟩), .func (.func 40) #[] #[.pointer (some ⟨q, 0, none⟩)]]) (by simp) (by simp [go_sem]) ?_; refine (parse_caught q q3 _ hsF _ w _ kF2 kF3 hbF hwq hwq3).mono ?_; rintro e u' w'' ⟨rfl, rfl, kQ, cE, hbG⟩; show ∃ v, _ ∧ _; exact ⟨_, results_cc rfl _ _ q q3 29 (saidC (Ms.blank 0)) _ (.int .i64 210) rfl rfl kQ Tryz.underlying29 rfl (by rw [saidC_size (blank_wf 0)]; exact infoSaid) (loadErr cE), HΦ.out _ _ ⟨by rw [HNO.1, HNO.2], hbG⟩⟩
        · have he : Wr.endR R.l false = ((R.l, false), 0) := by unfold Wr.endR; rw [hem]; rfl
          rw [he] at hend
          have hgs : ∀ W, Same (fun k => k < wr.heap.size ∧ k ≠ gr) wr W → Row W q 29 (saidC R.s) ∧ Row W q3 33 #[.int .i64 0] := fun W hs => ⟨hrow.same hs ⟨hrow.lt, hqgr.1⟩, k3.same hs ⟨k3.lt, hqgr.2.1⟩⟩
          have HGS := Lib.hid hgs
          have HEND := Lib.hid hend
          have hck := fun W => mcheck_any R.s hwfR hrl W
          clear hend he hgs
          cases hri : Ms.right R.s
          · have he : bodyE R.s = 2 := by unfold bodyE; rw [hri]; rfl
            rw [he] at hck
            have HNO1 : Hid (Ms.parse b = Ms.blank 0 ∧ Ms.parseE b = 210) := Lib.hid (by
              have : okB b = false := by rw [HOKB.out, hri]; simp
              unfold Ms.parse Ms.parseE
              rw [this]
              exact ⟨rfl, rfl⟩)
            have HCK := Lib.hid hck
            clear hck he hri hem
            go_wp2_with (first
              | (go_at_call 44; refine HEND.out.mono ?_; rintro e w9 ⟨hs9, rfl, hm9⟩; obtain ⟨kq, kq3⟩ := HGS.out w9 hs9; have hld := loadSaid hwfR kq)
              | (guard_target =~ wpList _ _ _ (_ :: _) _ _; refine wpList_loadG rfl 29 (.tmp 2) rfl (.pointer (some ⟨q, 0, none⟩)) rfl hld ?_)
              | (go_at_call 13; refine (HCK.out _).mono ?_; rintro e w10 ⟨rfl, hL10⟩)
              | (go_at_call 43; refine (mmust_no _).mono ?_; rintro e wx ⟨rfl, rfl⟩)
              | fail)
            have kF2 := kq.later hL10
            have kF3 := kq3.later hL10
            have hbF0 := below_took hbel hs9 (fun x h => ⟨Nat.lt_of_lt_of_le h hbel.size, by omega⟩)
            have hbF := hbF0.trans (hL10.below.mono hbF0.size)
            have hsF := hwfR
            have HNO := HNO1.out
            refine leaves_cons (f := 39) (args := #[.pointer (some ⟨q3, 0, none⟩), .func (.func 40) #[] #[.pointer (some ⟨q, 0, none⟩)]]) (by simp) (by simp [go_sem]) ?_; refine (parse_caught q q3 _ hsF _ w _ kF2 kF3 hbF hwq hwq3).mono ?_; rintro e u' w'' ⟨rfl, rfl, kQ, cE, hbG⟩; show ∃ v, _ ∧ _; exact ⟨_, results_cc rfl _ _ q q3 29 (saidC (Ms.blank 0)) _ (.int .i64 210) rfl rfl kQ Tryz.underlying29 rfl (by rw [saidC_size (blank_wf 0)]; exact infoSaid) (loadErr cE), HΦ.out _ _ ⟨by rw [HNO.1, HNO.2], hbG⟩⟩
          · have he : bodyE R.s = 0 := by unfold bodyE; rw [hri]; rfl
            rw [he] at hck
            have HYES : Hid (Ms.parse b = R.s ∧ Ms.parseE b = 0) := Lib.hid (by
              have : okB b = true := by rw [HOKB.out, hri, hem]; rfl
              refine ⟨by rw [HPA.out, this]; rfl, ?_⟩
              unfold Ms.parseE
              rw [this]
              rfl)
            have HCK := Lib.hid hck
            clear hck he hri hem
            go_upto_region 12 with (first
              | (go_at_call 44; refine HEND.out.mono ?_; rintro e w9 ⟨hs9, rfl, hm9⟩; obtain ⟨kq, kq3⟩ := HGS.out w9 hs9; have hld := loadSaid hwfR kq)
              | (guard_target =~ wpList _ _ _ (_ :: _) _ _; refine wpList_loadG rfl 29 (.tmp 2) rfl (.pointer (some ⟨q, 0, none⟩)) rfl hld ?_)
              | (go_at_call 13; refine (HCK.out _).mono ?_; rintro e w10 ⟨rfl, hL10⟩)
              | (go_at_call 43; refine (mmust_ok _).mono ?_; rintro e wx ⟨rfl, rfl⟩)
              | fail)
            have kq := kq.later hL10
            have kq3 := kq3.later hL10
            have hb9 := below_took hbel hs9 (fun x h => ⟨Nat.lt_of_lt_of_le h hbel.size, by omega⟩)
            have hb10 := hb9.trans (hL10.below.mono hb9.size)
            clear hld
            have hld := loadSaid hwfR kq
            obtain ⟨w11, hst, kq11, hg11⟩ := storeSaid hwfR hwfR kq
            have kq311 := kq3.grown hg11 (fun e => hqq (Option.some.inj e).symm)
            have hb11 := hb10.grown hg11 hb10.size (fun j e => by cases e; exact hwq)
            have c3 : w11.cell? ⟨q3, 0, none⟩ = some (.int .i64 0) := (kq311.cell 0).trans rfl
            have f3 : w11.frozen? ⟨q3, 0, none⟩ = false := kq311.frozen 0
            go_wp2_with (first
              | (guard_target =~ wpList _ _ _ (_ :: _) _ _; refine wpList_load rfl 29 (.tmp 2) rfl (.pointer (some ⟨q, 0, none⟩)) rfl hld ?_)
              | (guard_target =~ wpList _ _ _ (_ :: _) _ _; refine wpList_store rfl 29 (.tmp 2) (.tmp 48) rfl (.pointer (some ⟨q, 0, none⟩)) (.agg (saidC R.s)) rfl rfl hst ?_)
              | fail)
            refine leaves_cons (f := 39) (args := #[.pointer (some ⟨q3, 0, none⟩), .func (.func 40) #[] #[.pointer (some ⟨q, 0, none⟩)]]) (by simp) (by simp [go_sem]) ?_
            refine (mcaught_idle _ _ _).mono ?_
            rintro e u' w'' ⟨rfl, rfl, rfl⟩
            have kQ := kq11.far (p := ⟨q3, 0, none⟩) hqq (.int .i64 0)
            have k3' := kq311.set 0 (.int .i64 0)
            have cE := (k3'.cell 0).trans rfl
            have hb12 := hb11.setCell (p := ⟨q3, 0, none⟩) hwq3 (.int .i64 0)
            show ∃ v, _ ∧ _
            exact ⟨_, results_cc rfl _ _ q q3 29 (saidC R.s) _ (.int .i64 0) rfl rfl kQ Tryz.underlying29 rfl (by rw [saidC_size hwfR]; exact infoSaid) (loadErr cE), HΦ.out _ _ ⟨by rw [HYES.out.1, HYES.out.2], hb12⟩⟩
end Go.Proofs.YtcajhdmppfiaeaaGreat
namespace Go.Proofs.YtcajhdmppfiaeaaGreat
open Go.RowKit Ms
theorem wpList_lookupR {P : Program} {w : World} {ops : Array Oper} {rest : List Oper} {o : Oper} {a : Act} {Q : Exit → Act → World → Prop} (hgd : o.guard = none) (T : TypeId) (x y : Operand) (ok : Bool) (ho : o.op = .lookup T x y ok) (vx vy : Value) (hx : a.eval x = vx) (hy : a.eval y = vy) {v : Value} (hr : (Instr.lookup T vx vy ok).run P w = .ok v w) (h : wpList P ops Q rest (a.put o.dst v) w) : wpList P ops Q (o :: rest) a w := by
  refine wpList_plain hgd fun K hK => ?_
  unfold Oper.wp execOp
  simp only [ho, hx, hy, hr, Sem.run_bind, Sem.run_pure, Result.andThen_ok]
  exact hK _ _ h
theorem newKind (w : World) (k : Int) (A : Option Addr) : ∃ w' cs, (Instr.storeAt 71 (.pointer (some ⟨w.heap.size, 0, none⟩)) (kindV k A)).run Tryz.prog (w.alloc (.cells #[.string ⟨#[]⟩, .nilFunc, .slice none 0 0] 71)) = .ok () w' ∧ Row w' w.heap.size 71 cs ∧ cs[0]? = some (.string (kName k)) ∧ Later w w' := by
  obtain ⟨w', cs, h1, h2, hz, h3, h4⟩ := putKind (k := k) (A := A) (Row.new w 71 #[.string ⟨#[]⟩, .nilFunc, .slice none 0 0]) rfl
  obtain ⟨cs', e, _, _, _, _, h0⟩ := kindV_one k A
  have : cs' = cs := by
    have := e.symm.trans h2
    injection this
  subst this
  exact ⟨w', cs', h1, h3, h0, Below.grown ((Later.refl w).alloc _) h4 (by simp only [World.size_alloc]; omega) (fun j e => by cases e; exact Nat.le_refl _)⟩
set_option maxRecDepth 100000 in
theorem mtext_any (k : Int) (w : World) : Calls Tryz.prog 23 #[.int .i64 k] w fun e w' => e = .returned (.tuple #[.string (kName k), .bool (isKind k)]) ∧ Below w.heap.size w w' := by
  have hkk := kinds_any w
  go_enter Tryz.func23, Tryz.ntmps23
  go_upto_region 2 with (first
    | (go_at_call 26; refine hkk.mono ?_; clear hkk; rintro e w1 ⟨m, rfl, hK, hb1, _⟩; obtain ⟨A, hP, hr1, _⟩ := kinds_look hK k; obtain ⟨w2, cs, hst, hrow, h0, hL2⟩ := newKind w1 k A)
    | (guard_target =~ wpList _ _ _ (_ :: _) _ _; refine wpList_lookupR rfl 72 (.tmp 7) (.tmp 8) true rfl (.map (some m)) (.int .i64 k) rfl rfl (hr1 _ rfl) ?_)
    | (with_reducible refine wpList_alloc rfl 71 rfl (allocKind _) ?_)
    | (guard_target =~ wpList _ _ _ (_ :: _) _ _; refine wpList_store rfl 71 (.tmp 4) (.tmp 10) rfl (.pointer (some ⟨w1.heap.size, 0, none⟩)) (kindV k A) rfl rfl hst ?_)
    | fail)
  have c0 : w2.cell? ⟨w1.heap.size, 0, none⟩ = some (.string (kName k)) := (hrow.cell 0).trans h0
  have hb2 := hb1.trans (hL2.below.mono hb1.size)
  clear hst hrow h0 hL2 hr1 hP hK
  go_wp2_with fail
  go_ret2
  exact ⟨rfl, hb2⟩
namespace Ms
def said7 : Said := { blank 7 with id := 1 }
theorem k_body : bodyR said7 = [7, 1] ++ List.replicate 32 0 ∧ bodyE said7 = 0 := by decide +kernel
theorem k_p5 : parse [5] = blank 5 ∧ parseE [5] = 0 := by decide +kernel
theorem k_p50 : parse [5, 0] = blank 0 ∧ parseE [5, 0] = 210 := by decide +kernel
theorem k_p0 : parse [] = blank 0 ∧ parseE [] = 210 := by decide +kernel
theorem k_c8 : bodyE (blank 8) = 2 := by decide +kernel
theorem said7_wf : said7.wf := fun j hj => blank_wf 7 j hj
end Ms
theorem build7 (w : World) : (Instr.build 29 #[(0, .int .i64 7), (10, .int .i64 1)]).run Tryz.prog w = .ok (.agg (saidC said7)) w := by kernel_rfl
theorem build5 (w : World) : (Instr.build 29 #[(0, .int .i64 5)]).run Tryz.prog w = .ok (.agg (saidC (Ms.blank 5))) w := by kernel_rfl
theorem build8 (w : World) : (Instr.build 29 #[(0, .int .i64 8)]).run Tryz.prog w = .ok (.agg (saidC (Ms.blank 8))) w := by kernel_rfl
end Go.Proofs.YtcajhdmppfiaeaaGreat
namespace Go.Proofs.YtcajhdmppfiaeaaGreat
open Go.RowKit Ms
theorem add00 (W : World) : (binOp .add 3 (.int .i64 0) (.int .i64 0)).run Tryz.prog W = .ok (.int .i64 0) W := by kernel_rfl
theorem eqlII (a : Int) (W : World) : (binOp .eql 3 (.int .i64 a) (.int .i64 a)).run Tryz.prog W = .ok (.bool true) W := by
  have h : (binOp .eql 3 (.int .i64 a) (.int .i64 a)).run Tryz.prog W = .ok (.bool (a == a)) W := by kernel_rfl
  rw [h, beq_self_eq_true]
theorem eqgII {x y : Operand} {a b : Int} {W : World} : (eqGuard .eql 3 x y (.int .i64 a) (.int .i64 b)).run Tryz.prog W = .ok () W := by kernel_rfl
theorem num_n (n : Int) (w : World) (h : 0 ≤ n ∧ n ≤ 1000000) : Calls Tryz.prog 12 #[.int .i64 n] w fun e w' => e = .returned (.int .i64 n) ∧ w' = w := (num_any n w h).mono fun e W' ⟨h1, h2⟩ => ⟨h1, h2.symm⟩
theorem makeZ32 (w : World) : (Instr.makeSlice 32 (.int .i64 32) (.int .i64 32)).run Tryz.prog w = .ok (.slice (some ⟨w.heap.size, 0, none⟩) 32 32) (w.alloc (.cells (Array.replicate 32 (.int .u8 0)) 5)) := by kernel_rfl
theorem op_makeSliceR {P : Program} {Q : Exit → Act → World → Prop} {o : Oper} {a : Act} {W W' : World} {R : Value → World → Prop} {t : TypeId} {x y : Operand} {vx vy v : Value} (ho : o.op = .makeSlice t x y) (hx : a.eval x = vx) (hy : a.eval y = vy) (hr : (Instr.makeSlice t vx vy).run P W = .ok v W') (hL : Later W W') (h : R v W') : o.wp P a W (fun a' W' => ∃ v, a' = a.put o.dst v ∧ Later W W' ∧ R v W') Q := by
  refine op_value (v := v) (W' := W') ?_ hL h
  unfold execOp
  simp only [ho, hx, hy, hr, Sem.run_bind, Sem.run_pure, Result.andThen_ok]
abbrev wz : List UInt8 := List.replicate 32 0
theorem addSS (W : World) : (binOp .add 9 (.string ⟨([7, 1] : List UInt8).toArray⟩) (.string ⟨wz.toArray⟩)).run Tryz.prog W = .ok (.string ⟨([7, 1] ++ wz).toArray⟩) W := by kernel_rfl
theorem wz_len : wz.length = 32 := by simp
theorem wz_row (W : World) : Rd (W.alloc (.cells (Array.replicate 32 (.int .u8 0)) 5)) (some ⟨W.heap.size, 0, none⟩) wz :=
  RdV.bytes (by
    have := RdV.row (vs := wz.map byteV) (t := 5) (g := W.heap.size) (w := W.alloc (.cells (Array.replicate 32 (.int .u8 0)) 5)) (by
      rw [show (wz.map byteV).toArray = Array.replicate 32 (.int .u8 0) from rfl]
      exact Row.new W _ _)
    exact this)
theorem check8 (w : World) : Calls Tryz.prog 13 #[.agg (saidC (Ms.blank 8))] w fun e w' => e = .returned (.int .i64 2) ∧ Later w w' := by
  have := mcheck_any (Ms.blank 8) (blank_wf 8) (by decide) w
  rwa [k_c8] at this
def Pr.rdz : Pr := ⟨fun v W => ∃ b, v = .slice (some ⟨b, 0, none⟩) 32 32 ∧ Rd W (some ⟨b, 0, none⟩) wz, fun _ _ _ ⟨b, e, h⟩ hL => ⟨b, e, h.later hL⟩⟩
theorem rd_row1 (w : World) (x : UInt8) : Rd (w.alloc (.cells #[.int .u8 (x.toNat : Int)] 5)) (some ⟨w.heap.size, 0, none⟩) [x] := RdV.bytes (RdV.row (Row.new w _ _))
theorem rd_row2 (w : World) (x y : UInt8) : Rd (w.alloc (.cells #[.int .u8 (x.toNat : Int), .int .u8 (y.toNat : Int)] 5)) (some ⟨w.heap.size, 0, none⟩) [x, y] := RdV.bytes (RdV.row (Row.new w _ _))
set_option maxRecDepth 100000 in
set_option maxHeartbeats 8000000 in
theorem works_yes (w : World) : Calls Tryz.prog 9 #[] w fun e w' => e = .returned (.bool true) ∧ Below w.heap.size w w' := by
  have hc := mbody_any said7 said7_wf (by decide) w
  rw [k_body.1, k_body.2] at hc
  go_enter Tryz.func9, Tryz.ntmps9
  go_upto_region 2 with (first
    | (guard_target =~ wpList _ _ _ (_ :: _) _ _; refine wpList_build rfl 29 _ rfl #[(0, .int .i64 7), (10, .int .i64 1)] rfl (build7 _) ?_)
    | (go_at_call 10; refine hc.mono ?_; clear hc; rintro e w1 ⟨v1, rfl, hown, hb1⟩; obtain ⟨A1, c1, rfl, h1c, h1m, hr1⟩ := hown.slice)
    | fail)
  clear hown
  have hL2 : Later w1 (w1.alloc (.cells #[.int .u8 5] 5)) := (Later.refl w1).alloc _
  have hc := mparse_any (some ⟨w1.heap.size, 0, none⟩) 1 1 [5] _ rfl (by decide) (rd_row1 w1 5)
  rw [k_p5.1, k_p5.2] at hc
  have HC := Lib.hid hc
  have HL2 := Lib.hid hL2
  clear hc hL2
  go_upto_region 3 with (first
    | (go_at_call 15; refine HC.out.mono ?_; rintro e w2 ⟨rfl, hb2⟩; obtain ⟨w3, hst, x3, hL3⟩ := newSaid w2 (blank_wf 5))
    | (with_reducible refine wpList_alloc rfl 29 rfl (allocSaid _) ?_)
    | (guard_target =~ wpList _ _ _ (_ :: _) _ _; refine wpList_store rfl 29 (.tmp 3) (.tmp 19) rfl (.pointer (some ⟨w2.heap.size, 0, none⟩)) (.agg (saidC (Ms.blank 5))) rfl rfl hst ?_)
    | fail)
  obtain ⟨q3, hq3⟩ : ∃ q, q = w2.heap.size := ⟨_, rfl⟩
  rw [← hq3] at x3 ⊢
  have hN : Later w1 w3 := (Later.step HL2.out hb2).step hL3
  have hr1 := hr1.later hN
  have hb3 : Below w.heap.size w w3 := hb1.trans (hN.below.mono hb1.size)
  clear HC HL2 hst hq3 hL3 hN hb2 hb1
  have hL2 : Later w3 (w3.alloc (.cells #[.int .u8 5, .int .u8 0] 5)) := (Later.refl w3).alloc _
  have hc := mparse_any (some ⟨w3.heap.size, 0, none⟩) 2 2 [5, 0] _ rfl (by decide) (rd_row2 w3 5 0)
  rw [k_p50.1, k_p50.2] at hc
  have HC := Lib.hid hc
  have HL2 := Lib.hid hL2
  clear hc hL2
  go_upto_region 4 with (first
    | (go_at_call 15; refine HC.out.mono ?_; rintro e w4 ⟨rfl, hb2⟩; obtain ⟨w5, hst, x5, hL3⟩ := newSaid w4 (blank_wf 0))
    | (with_reducible refine wpList_alloc rfl 29 rfl (allocSaid _) ?_)
    | (guard_target =~ wpList _ _ _ (_ :: _) _ _; refine wpList_store rfl 29 (.tmp 5) (.tmp 24) rfl (.pointer (some ⟨w4.heap.size, 0, none⟩)) (.agg (saidC (Ms.blank 0))) rfl rfl hst ?_)
    | fail)
  obtain ⟨q5, hq5⟩ : ∃ q, q = w4.heap.size := ⟨_, rfl⟩
  rw [← hq5] at x5 ⊢
  have hN : Later w3 w5 := (Later.step HL2.out hb2).step hL3
  have hr1 := hr1.later hN
  have x3 := x3.later hN
  have hb5 : Below w.heap.size w w5 := hb3.trans (hN.below.mono hb3.size)
  clear HC HL2 hst hq5 hL3 hN hb2 hb3
  have hc := mparse_any none 0 0 [] w5 rfl (by decide) (Rd.nil _ _)
  rw [k_p0.1, k_p0.2] at hc
  have HC := Lib.hid hc
  clear hc
  go_upto_region 5 with (first
    | (go_at_call 15; refine HC.out.mono ?_; rintro e w6 ⟨rfl, hb2⟩; obtain ⟨w7, hst, x7, hL3⟩ := newSaid w6 (blank_wf 0))
    | (with_reducible refine wpList_alloc rfl 29 rfl (allocSaid _) ?_)
    | (guard_target =~ wpList _ _ _ (_ :: _) _ _; refine wpList_store rfl 29 (.tmp 7) (.tmp 28) rfl (.pointer (some ⟨w6.heap.size, 0, none⟩)) (.agg (saidC (Ms.blank 0))) rfl rfl hst ?_)
    | fail)
  obtain ⟨q7, hq7⟩ : ∃ q, q = w6.heap.size := ⟨_, rfl⟩
  rw [← hq7] at x7 ⊢
  have hN : Later w5 w7 := Later.step hb2 hL3
  have hr1 := hr1.later hN
  have x3 := x3.later hN
  have hb7 : Below w.heap.size w w7 := hb5.trans (hN.below.mono hb5.size)
  clear HC hst hq7 hL3 hN hb2 hb5 x5 x7
  have hc := mtext_any 9 w7
  rw [show kName 9 = ⟨#[99, 111, 109, 109, 105, 116]⟩ from rfl, show isKind 9 = true from rfl] at hc
  have HC := Lib.hid hc
  clear hc
  go_upto_region 6 with (first
    | (go_at_call 23; refine HC.out.mono ?_; rintro e w8 ⟨rfl, hb2⟩)
    | fail)
  have hr1 : Rd w8 A1 ([7, 1] ++ wz) := hr1.later hb2
  have x3 := x3.later hb2
  have hb8 : Below w.heap.size w w8 := hb7.trans (hb2.mono hb7.size)
  clear HC hb2 hb7
  refine (wpIn_wide (n := 0)).1 ?_
  refine wpIn_region_last wide_wide [Pr.eq (.int .i64 0), Pr.eq (.int .i64 0), Pr.eq (.int .i64 0), Pr.eq (.int .i64 0), Pr.eq (.int .i64 0), Pr.eq (.bool true), Pr.eq (.bool true), Pr.eq (.slice A1 34 c1), Pr.eq (.string ⟨([7, 1] ++ wz).toArray⟩), Pr.rdz, Pr.eq (.string ⟨wz.toArray⟩), Pr.eq (.string ⟨([7, 1] ++ wz).toArray⟩), Pr.eq (.bool true), Pr.eq (.bool true), Pr.eq (.bool true), Pr.eq (.agg (saidC (Ms.blank 5))), Pr.eq (.agg (saidC (Ms.blank 5))), Pr.eq (.bool true), Pr.eq (.bool true), Pr.eq (.bool true), Pr.eq (.int .i64 210), Pr.eq (.int .i64 210), Pr.eq (.bool true), Pr.eq (.bool true), Pr.eq (.bool true), Pr.eq (.int .i64 210), Pr.eq (.int .i64 210), Pr.eq (.bool true), Pr.eq (.bool true), Pr.eq (.bool true), Pr.eq (.string ⟨#[99, 111, 109, 109, 105, 116]⟩), Pr.eq (.bool true), Pr.eq (.bool true), Pr.eq (.bool true), Pr.eq (.bool true), Pr.eq (.bool true), Pr.eq (.bool true), Pr.eq (.agg (saidC (Ms.blank 8))), Pr.eq (.int .i64 2), Pr.eq (.int .i64 2), Pr.eq (.bool true), Pr.eq (.bool true)] (by kernel_rfl) (by kernel_rfl) (by kernel_rfl) (by kernel_rfl) (by kernel_rfl) (by kernel_rfl) rfl ⟨?_, ?_, ?_, ?_, ?_, ?_, ?_, ?_, ?_, ?_, ?_, ?_, ?_, ?_, ?_, ?_, ?_, ?_, ?_, ?_, ?_, ?_, ?_, ?_, ?_, ?_, ?_, ?_, ?_, ?_, ?_, ?_, ?_, ?_, ?_, ?_, ?_, ?_, ?_, ?_, ?_, ?_, trivial⟩ ?_
  · exact fun ac W hL he => stepOk_want rfl (op_move rfl (he.keep (.tmp 2) (by kernel_rfl)))
  · intro ac W hL he; refine stepOk_want rfl ?_; have e0 : ac.eval (.tmp 34) = .int .i64 0 := (he.get 0 34 (by kernel_rfl) rfl); exact op_callF (vs := #[.int .i64 0]) rfl (by simp only [List.map_toArray, List.map_cons, List.map_nil, e0]) (enters_of Tryz.func12 (by kernel_rfl) rfl) (((num_n 0 W (by decide))).mono fun e W' ⟨he', hw'⟩ => ⟨_, he', hw' ▸ Later.refl _, rfl⟩)
  · exact fun ac W hL he => stepOk_want rfl (op_move rfl (he.keep (.tmp 4) (by kernel_rfl)))
  · intro ac W hL he; refine stepOk_want rfl ?_; have e0 : ac.eval (.tmp 36) = .int .i64 0 := (he.get 2 36 (by kernel_rfl) rfl); exact op_callF (vs := #[.int .i64 0]) rfl (by simp only [List.map_toArray, List.map_cons, List.map_nil, e0]) (enters_of Tryz.func12 (by kernel_rfl) rfl) (((num_n 0 W (by decide))).mono fun e W' ⟨he', hw'⟩ => ⟨_, he', hw' ▸ Later.refl _, rfl⟩)
  · exact fun ac W hL he => stepOk_want rfl (op_binOp rfl (he.get 1 35 (by kernel_rfl) rfl) (he.get 3 37 (by kernel_rfl) rfl) rfl (add00 W) rfl)
  · exact fun ac W hL he => stepOk_want rfl (op_binOp rfl (he.get 4 38 (by kernel_rfl) rfl) rfl eqgII (eqlII 0 W) rfl)
  · exact fun ac W hL he => stepOk_want rfl (op_move rfl (he.get 5 39 (by kernel_rfl) rfl))
  · exact fun ac W hL he => stepOk_yes (j := 6) (t := 40) (b := true) rfl rfl (he.get 6 40 (by kernel_rfl) rfl) (op_move rfl (he.keep (.tmp 1) (by kernel_rfl)))
  · exact fun ac W hL he => stepOk_yes (j := 6) (t := 40) (b := true) rfl rfl (he.get 6 40 (by kernel_rfl) rfl) (op_convert rfl (he.get 7 41 (by kernel_rfl) rfl) (run_string_rd W 32 9 5 A1 34 c1 _ Tryz.underlying32 Tryz.underlying5 Tryz.underlying9 rfl (hr1.later hL)) (Later.refl _) rfl)
  · exact fun ac W hL he => stepOk_yes (j := 6) (t := 40) (b := true) rfl rfl (he.get 6 40 (by kernel_rfl) rfl) (op_makeSliceR rfl rfl rfl (makeZ32 W) ((Later.refl W).alloc _) ⟨_, rfl, wz_row W⟩)
  · intro ac W hL he; refine stepOk_yes (j := 6) (t := 40) (b := true) rfl rfl (he.get 6 40 (by kernel_rfl) rfl) ?_; obtain ⟨b, e43, hz⟩ : ∃ b, ac.eval (.tmp 43) = .slice (some ⟨b, 0, none⟩) 32 32 ∧ Rd W (some ⟨b, 0, none⟩) wz := he.get 9 43 (by kernel_rfl) rfl; exact op_convert rfl e43 (run_string_rd W 32 9 5 _ 32 32 wz Tryz.underlying32 Tryz.underlying5 Tryz.underlying9 wz_len hz) (Later.refl _) rfl
  · exact fun ac W hL he => stepOk_yes (j := 6) (t := 40) (b := true) rfl rfl (he.get 6 40 (by kernel_rfl) rfl) (op_binOp rfl rfl (he.get 10 44 (by kernel_rfl) rfl) rfl (addSS W) rfl)
  · exact fun ac W hL he => stepOk_yes (j := 6) (t := 40) (b := true) rfl rfl (he.get 6 40 (by kernel_rfl) rfl) (op_binOp rfl (he.get 8 42 (by kernel_rfl) rfl) (he.get 11 45 (by kernel_rfl) rfl) eqgS (eqlS_self _ _) rfl)
  · exact fun ac W hL he => stepOk_want rfl (op_pick (b := true) rfl (he.get 6 40 (by kernel_rfl) rfl) (he.get 12 46 (by kernel_rfl) rfl))
  · exact fun ac W hL he => stepOk_want rfl (op_move rfl (he.get 13 47 (by kernel_rfl) rfl))
  · exact fun ac W hL he => stepOk_yes (j := 14) (t := 48) (b := true) rfl rfl (he.get 14 48 (by kernel_rfl) rfl) (op_load rfl (he.keep (.tmp 3) (by kernel_rfl)) (loadSaid (blank_wf 5) (x3.later hL)) rfl)
  · exact fun ac W hL he => stepOk_yes (j := 14) (t := 48) (b := true) rfl rfl (he.get 14 48 (by kernel_rfl) rfl) (op_buildR rfl (by simp only [List.map_toArray, List.map_cons, List.map_nil]; rfl) (build5 W) rfl)
  · exact fun ac W hL he => stepOk_yes (j := 14) (t := 48) (b := true) rfl rfl (he.get 14 48 (by kernel_rfl) rfl) (op_binOp rfl (he.get 15 49 (by kernel_rfl) rfl) (he.get 16 50 (by kernel_rfl) rfl) (by kernel_rfl) ((eqlSaid (blank_wf 5) (blank_wf 5) W).trans (by rw [decide_eq_true rfl])) rfl)
  · exact fun ac W hL he => stepOk_want rfl (op_pick (b := true) rfl (he.get 14 48 (by kernel_rfl) rfl) (he.get 17 51 (by kernel_rfl) rfl))
  · exact fun ac W hL he => stepOk_want rfl (op_move rfl (he.get 18 52 (by kernel_rfl) rfl))
  · exact fun ac W hL he => stepOk_yes (j := 19) (t := 53) (b := true) rfl rfl (he.get 19 53 (by kernel_rfl) rfl) (op_move rfl (he.keep (.tmp 6) (by kernel_rfl)))
  · intro ac W hL he; refine stepOk_yes (j := 19) (t := 53) (b := true) rfl rfl (he.get 19 53 (by kernel_rfl) rfl) ?_; have e0 : ac.eval (.tmp 54) = .int .i64 210 := (he.get 20 54 (by kernel_rfl) rfl); exact op_callF (vs := #[.int .i64 210]) rfl (by simp only [List.map_toArray, List.map_cons, List.map_nil, e0]) (enters_of Tryz.func12 (by kernel_rfl) rfl) (((num_n 210 W (by decide))).mono fun e W' ⟨he', hw'⟩ => ⟨_, he', hw' ▸ Later.refl _, rfl⟩)
  · exact fun ac W hL he => stepOk_yes (j := 19) (t := 53) (b := true) rfl rfl (he.get 19 53 (by kernel_rfl) rfl) (op_binOp rfl (he.get 21 55 (by kernel_rfl) rfl) rfl eqgII (eqlII 210 W) rfl)
  · exact fun ac W hL he => stepOk_want rfl (op_pick (b := true) rfl (he.get 19 53 (by kernel_rfl) rfl) (he.get 22 56 (by kernel_rfl) rfl))
  · exact fun ac W hL he => stepOk_want rfl (op_move rfl (he.get 23 57 (by kernel_rfl) rfl))
  · exact fun ac W hL he => stepOk_yes (j := 24) (t := 58) (b := true) rfl rfl (he.get 24 58 (by kernel_rfl) rfl) (op_move rfl (he.keep (.tmp 8) (by kernel_rfl)))
  · intro ac W hL he; refine stepOk_yes (j := 24) (t := 58) (b := true) rfl rfl (he.get 24 58 (by kernel_rfl) rfl) ?_; have e0 : ac.eval (.tmp 59) = .int .i64 210 := (he.get 25 59 (by kernel_rfl) rfl); exact op_callF (vs := #[.int .i64 210]) rfl (by simp only [List.map_toArray, List.map_cons, List.map_nil, e0]) (enters_of Tryz.func12 (by kernel_rfl) rfl) (((num_n 210 W (by decide))).mono fun e W' ⟨he', hw'⟩ => ⟨_, he', hw' ▸ Later.refl _, rfl⟩)
  · exact fun ac W hL he => stepOk_yes (j := 24) (t := 58) (b := true) rfl rfl (he.get 24 58 (by kernel_rfl) rfl) (op_binOp rfl (he.get 26 60 (by kernel_rfl) rfl) rfl eqgII (eqlII 210 W) rfl)
  · exact fun ac W hL he => stepOk_want rfl (op_pick (b := true) rfl (he.get 24 58 (by kernel_rfl) rfl) (he.get 27 61 (by kernel_rfl) rfl))
  · exact fun ac W hL he => stepOk_want rfl (op_move rfl (he.get 28 62 (by kernel_rfl) rfl))
  · exact fun ac W hL he => stepOk_yes (j := 29) (t := 63) (b := true) rfl rfl (he.get 29 63 (by kernel_rfl) rfl) (op_move rfl (he.keep (.tmp 9) (by kernel_rfl)))
  · exact fun ac W hL he => stepOk_yes (j := 29) (t := 63) (b := true) rfl rfl (he.get 29 63 (by kernel_rfl) rfl) (op_binOp rfl (he.get 30 64 (by kernel_rfl) rfl) rfl eqgS (eqlS_self _ _) rfl)
  · exact fun ac W hL he => stepOk_want rfl (op_pick (b := true) rfl (he.get 29 63 (by kernel_rfl) rfl) (he.get 31 65 (by kernel_rfl) rfl))
  · exact fun ac W hL he => stepOk_want rfl (op_move rfl (he.get 32 66 (by kernel_rfl) rfl))
  · exact fun ac W hL he => stepOk_yes (j := 33) (t := 67) (b := true) rfl rfl (he.get 33 67 (by kernel_rfl) rfl) (op_move rfl (he.keep (.tmp 10) (by kernel_rfl)))
  · exact fun ac W hL he => stepOk_want rfl (op_pick (b := true) rfl (he.get 33 67 (by kernel_rfl) rfl) (he.get 34 68 (by kernel_rfl) rfl))
  · exact fun ac W hL he => stepOk_want rfl (op_move rfl (he.get 35 69 (by kernel_rfl) rfl))
  · exact fun ac W hL he => stepOk_yes (j := 36) (t := 70) (b := true) rfl rfl (he.get 36 70 (by kernel_rfl) rfl) (op_buildR rfl (by simp only [List.map_toArray, List.map_cons, List.map_nil]; rfl) (build8 W) rfl)
  · intro ac W hL he; refine stepOk_yes (j := 36) (t := 70) (b := true) rfl rfl (he.get 36 70 (by kernel_rfl) rfl) ?_; have e0 : ac.eval (.tmp 71) = .agg (saidC (Ms.blank 8)) := (he.get 37 71 (by kernel_rfl) rfl); exact op_callF (vs := #[.agg (saidC (Ms.blank 8))]) rfl (by simp only [List.map_toArray, List.map_cons, List.map_nil, e0]) (enters_of Tryz.func13 (by kernel_rfl) rfl) (((check8 W)).mono fun e W' ⟨he', hb⟩ => ⟨_, he', hb, rfl⟩)
  · intro ac W hL he; refine stepOk_yes (j := 36) (t := 70) (b := true) rfl rfl (he.get 36 70 (by kernel_rfl) rfl) ?_; have e0 : ac.eval (.tmp 72) = .int .i64 2 := (he.get 38 72 (by kernel_rfl) rfl); exact op_callF (vs := #[.int .i64 2]) rfl (by simp only [List.map_toArray, List.map_cons, List.map_nil, e0]) (enters_of Tryz.func12 (by kernel_rfl) rfl) (((num_n 2 W (by decide))).mono fun e W' ⟨he', hw'⟩ => ⟨_, he', hw' ▸ Later.refl _, rfl⟩)
  · exact fun ac W hL he => stepOk_yes (j := 36) (t := 70) (b := true) rfl rfl (he.get 36 70 (by kernel_rfl) rfl) (op_binOp rfl (he.get 39 73 (by kernel_rfl) rfl) rfl eqgII (eqlII 2 W) rfl)
  · exact fun ac W hL he => stepOk_want rfl (op_pick (b := true) rfl (he.get 36 70 (by kernel_rfl) rfl) (he.get 40 74 (by kernel_rfl) rfl))
  intro xs W hL hx hk hgt
  have e75 := hgt 41 75 (by decide) (by kernel_rfl)
  rw [show xs 41 = .bool true from hx 41 (by decide)] at e75
  refine last_assign rfl e75 ?_
  clear hx hk hgt e75
  simp only [initL, lastL, putL, Nat.reduceAdd, Act.put, List.setIfInBounds_toArray, List.set_cons_succ, List.set_cons_zero]
  have HB := Lib.hid (hb8.trans (hL.below.mono hb8.size))
  go_wp2_with fail
  go_ret
  exact ⟨rfl, HB.out⟩
end Go.Proofs.YtcajhdmppfiaeaaGreat
namespace Go.Proofs.YtcajhdmppfiaeaaGreat
open Go.RowKit Ms
theorem refWithin_any (n : Int) (w : World) : Calls Tryz.prog 29 #[.int .i64 n] w fun e w' => w' = w ∧ e = .returned (.bool (within n)) := by
  unfold within
  by_cases h : 0 ≤ n
  · have hd : decide (0 ≤ n) = true := decide_eq_true h
    rw [hd, Bool.true_and]
    obtain ⟨c, hc⟩ : ∃ c, decide (n ≤ 2147483647) = c := ⟨_, rfl⟩
    rw [hc]
    go_enter Tryz.func29, Tryz.ntmps29
    go_wp2
    go_ret
    exact ⟨rfl, rfl⟩
  · have hd : decide (0 ≤ n) = false := decide_eq_false h
    rw [hd, Bool.false_and]
    go_enter Tryz.func29, Tryz.ntmps29
    go_wp2
    go_ret
    exact ⟨rfl, rfl⟩
theorem refAmt_any (n : Int) (w : World) : Calls Tryz.prog 30 #[.int .i64 n] w fun e w' => w' = w ∧ e = .returned (.bool (amt n)) := by
  unfold amt
  by_cases h : 0 ≤ n
  · have hd : decide (0 ≤ n) = true := decide_eq_true h
    rw [hd, Bool.true_and]
    obtain ⟨c, hc⟩ : ∃ c, decide (n ≤ 1125899906842624) = c := ⟨_, rfl⟩
    rw [hc]
    go_enter Tryz.func30, Tryz.ntmps30
    go_wp2
    go_ret
    exact ⟨rfl, rfl⟩
  · have hd : decide (0 ≤ n) = false := decide_eq_false h
    rw [hd, Bool.false_and]
    go_enter Tryz.func30, Tryz.ntmps30
    go_wp2
    go_ret
    exact ⟨rfl, rfl⟩
theorem tmB_split (s : Said) : tmB s = (decide (0 ≤ s.tix) && (decide (s.tix < 24) && (decide (1000 ≤ s.cap) && (amt s.cap && (decide (1 ≤ s.dust) && (decide (s.dust ≤ 500) && (decide (0 ≤ s.fee) && (decide (s.fee ≤ 400) && (decide (1 ≤ s.delay) && (decide (s.delay ≤ 1000) && kD s)))))))))) := by
  unfold tmB inB amt
  rw [Bool.eq_iff_iff]
  simp only [Bool.and_eq_true, decide_eq_true_eq, Bool.and_true]
  constructor <;> intro h <;> simp only [h, and_true, true_and] <;> omega
set_option maxRecDepth 100000 in
set_option maxHeartbeats 2000000 in
theorem refTerms_any (s : Said) (hs : s.wf) (w : World) : Calls Tryz.prog 89 #[.agg (termsC s)] w fun e w' => e = .returned (.bool (tmB s)) ∧ Later w w' := by
  have kq := Row.new w 27 (termsC s)
  have hb := below_new w (.cells (termsC s) 27)
  have hbx := boxTerms hs w
  have HB := Lib.hid hb
  clear hb
  rw [tmB_split]
  have HAM := Lib.hid (fun W => refAmt_any s.cap W)
  obtain ⟨b1, h1⟩ : ∃ b, decide (0 ≤ s.tix) = b := ⟨_, rfl⟩
  obtain ⟨b2, h2⟩ : ∃ b, decide (s.tix < 24) = b := ⟨_, rfl⟩
  obtain ⟨b3, h3⟩ : ∃ b, decide (1000 ≤ s.cap) = b := ⟨_, rfl⟩
  obtain ⟨b4, h4⟩ : ∃ b, amt s.cap = b := ⟨_, rfl⟩
  obtain ⟨b5, h5⟩ : ∃ b, decide (1 ≤ s.dust) = b := ⟨_, rfl⟩
  obtain ⟨b6, h6⟩ : ∃ b, decide (s.dust ≤ 500) = b := ⟨_, rfl⟩
  obtain ⟨b7, h7⟩ : ∃ b, decide (0 ≤ s.fee) = b := ⟨_, rfl⟩
  obtain ⟨b8, h8⟩ : ∃ b, decide (s.fee ≤ 400) = b := ⟨_, rfl⟩
  obtain ⟨b9, h9⟩ : ∃ b, decide (1 ≤ s.delay) = b := ⟨_, rfl⟩
  obtain ⟨b10, h10⟩ : ∃ b, decide (s.delay ≤ 1000) = b := ⟨_, rfl⟩
  obtain ⟨b11, h11⟩ : ∃ b, kD s = b := ⟨_, rfl⟩
  rw [h1, h2, h3, h4, h5, h6, h7, h8, h9, h10, h11]
  have HAM := Lib.hid (h4 ▸ HAM.out)
  clear h4
  go_enter Tryz.func89, Tryz.ntmps89
  go_upto_region 1 with fail
  obtain ⟨q, hq⟩ : ∃ q, q = w.heap.size := ⟨_, rfl⟩
  rw [← hq] at kq ⊢
  clear hbx hq
  generalize w.alloc (.cells (termsC s) 27) = w1 at *
  have HK0 := Lib.hid (loadTermK hs kq 0 (by decide))
  have HK1 := Lib.hid (loadTermK hs kq 1 (by decide))
  have HNQ : Hid ((binOp .neq 24 (.agg (hC s.key0)) (.agg (hC s.key1))).run Tryz.prog w1 = .ok (.bool b11) w1) := Lib.hid (h11 ▸ neqHash s.key0 s.key1 (hs 1 (by decide)) (hs 2 (by decide)) w1)
  have c1 : w1.cell? ⟨q, 32, none⟩ = some (.int .i64 s.tix) := (kq.cell _).trans (termsC_n hs 0 (by decide))
  have c2 : w1.cell? ⟨q, 33, none⟩ = some (.int .i64 s.cap) := (kq.cell _).trans (termsC_n hs 1 (by decide))
  have c3 : w1.cell? ⟨q, 34, none⟩ = some (.int .i64 s.dust) := (kq.cell _).trans (termsC_n hs 2 (by decide))
  have c4 : w1.cell? ⟨q, 35, none⟩ = some (.int .i64 s.fee) := (kq.cell _).trans (termsC_n hs 3 (by decide))
  have c5 : w1.cell? ⟨q, 36, none⟩ = some (.int .i64 s.delay) := (kq.cell _).trans (termsC_n hs 4 (by decide))
  clear kq
  cases b1
  · go_wp2_with (first
      | (go_at_call 30; refine (HAM.out _).mono ?_; rintro e w6 ⟨rfl, rfl⟩)
      | fail)
    go_ret
    exact ⟨rfl, HB.out⟩
  cases b2
  · go_wp2_with (first
      | (go_at_call 30; refine (HAM.out _).mono ?_; rintro e w6 ⟨rfl, rfl⟩)
      | fail)
    go_ret
    exact ⟨rfl, HB.out⟩
  cases b3
  · go_wp2_with (first
      | (go_at_call 30; refine (HAM.out _).mono ?_; rintro e w6 ⟨rfl, rfl⟩)
      | fail)
    go_ret
    exact ⟨rfl, HB.out⟩
  cases b4
  · go_wp2_with (first
      | (go_at_call 30; refine (HAM.out _).mono ?_; rintro e w6 ⟨rfl, rfl⟩)
      | fail)
    go_ret
    exact ⟨rfl, HB.out⟩
  cases b5
  · go_wp2_with (first
      | (go_at_call 30; refine (HAM.out _).mono ?_; rintro e w6 ⟨rfl, rfl⟩)
      | fail)
    go_ret
    exact ⟨rfl, HB.out⟩
  cases b6
  · go_wp2_with (first
      | (go_at_call 30; refine (HAM.out _).mono ?_; rintro e w6 ⟨rfl, rfl⟩)
      | fail)
    go_ret
    exact ⟨rfl, HB.out⟩
  cases b7
  · go_wp2_with (first
      | (go_at_call 30; refine (HAM.out _).mono ?_; rintro e w6 ⟨rfl, rfl⟩)
      | fail)
    go_ret
    exact ⟨rfl, HB.out⟩
  cases b8
  · go_wp2_with (first
      | (go_at_call 30; refine (HAM.out _).mono ?_; rintro e w6 ⟨rfl, rfl⟩)
      | fail)
    go_ret
    exact ⟨rfl, HB.out⟩
  cases b9
  · go_wp2_with (first
      | (go_at_call 30; refine (HAM.out _).mono ?_; rintro e w6 ⟨rfl, rfl⟩)
      | fail)
    go_ret
    exact ⟨rfl, HB.out⟩
  cases b10
  · go_wp2_with (first
      | (go_at_call 30; refine (HAM.out _).mono ?_; rintro e w6 ⟨rfl, rfl⟩)
      | fail)
    go_ret
    exact ⟨rfl, HB.out⟩
  go_wp2_with (first
    | (go_at_call 30; refine (HAM.out _).mono ?_; rintro e w6 ⟨rfl, rfl⟩)
    | (guard_target =~ wpList _ _ _ (_ :: _) _ _; refine wpList_loadG rfl 24 (.tmp 53) rfl (.pointer (some ⟨q, 37, none⟩)) rfl HK0.out ?_)
    | (guard_target =~ wpList _ _ _ (_ :: _) _ _; refine wpList_loadG rfl 24 (.tmp 56) rfl (.pointer (some ⟨q, 69, none⟩)) rfl HK1.out ?_)
    | (guard_target =~ wpList _ _ _ (_ :: _) _ _; refine wpList_binG rfl .neq 24 _ (.tmp 54) (.tmp 57) rfl (.agg (hC s.key0)) (.agg (hC s.key1)) rfl rfl (by kernel_rfl) HNQ.out ?_)
    | fail)
  go_ret
  exact ⟨rfl, HB.out⟩
end Go.Proofs.YtcajhdmppfiaeaaGreat
namespace Go.Proofs.YtcajhdmppfiaeaaGreat
open Go.RowKit Ms
def rtB (s : Said) : Bool := (s.fund == z32) && ((s.tix == 0) && ((s.key1 == z32) && termsB s))
set_option maxRecDepth 100000 in
set_option maxHeartbeats 2000000 in
theorem refT11_any (s : Said) (hs : s.wf) (w : World) : Calls Tryz.prog 31 #[.agg (termsC s)] w fun e w' => e = .returned (.bool (rtB s)) ∧ Later w w' := by
  have k1 := Row.new w 27 (termsC s)
  have hb := below_new w (.cells (termsC s) 27)
  have hbx := boxTerms hs w
  obtain ⟨b1, h1⟩ : ∃ b, (s.fund == z32) = b := ⟨_, rfl⟩
  obtain ⟨b2, h2⟩ : ∃ b, (s.tix == 0) = b := ⟨_, rfl⟩
  obtain ⟨b3, h3⟩ : ∃ b, (s.key1 == z32) = b := ⟨_, rfl⟩
  obtain ⟨b4, h4⟩ : ∃ b, termsB s = b := ⟨_, rfl⟩
  unfold rtB
  rw [h1, h2, h3, h4]
  have HF := Lib.hid (fun W => h1 ▸ eqlHash s.fund z32 (hs 0 (by decide)) z32_len W)
  have HK := Lib.hid (fun W => h3 ▸ eqlHash s.key1 z32 (hs 2 (by decide)) z32_len W)
  have H4 := Lib.hid h4
  clear h1 h3 h4
  go_enter Tryz.func31, Tryz.ntmps31
  go_upto_region 1 with fail
  obtain ⟨g, hg⟩ : ∃ q, q = w.heap.size := ⟨_, rfl⟩
  rw [← hg] at k1 ⊢
  clear hbx hg
  generalize w.alloc (.cells (termsC s) 27) = w1 at *
  have hld := loadTerms hs k1
  obtain ⟨w2, hst, kq, hL2⟩ := newTerms w1 hs
  have k2 := k1.later hL2
  have hb2 := Later.step hb hL2
  go_upto_region 2 with (first
    | (guard_target =~ wpList _ _ _ (_ :: _) _ _; refine wpList_load rfl 27 (.tmp 1) rfl (.pointer (some ⟨g, 0, none⟩)) rfl hld ?_)
    | (with_reducible refine wpList_alloc rfl 27 rfl (allocTerms _) ?_)
    | (guard_target =~ wpList _ _ _ (_ :: _) _ _; refine wpList_store rfl 27 (.tmp 3) (.tmp 4) rfl (.pointer (some ⟨w1.heap.size, 0, none⟩)) (.agg (termsC s)) rfl rfl hst ?_)
    | fail)
  have hgq : g < w1.heap.size := k1.lt
  obtain ⟨q, hq⟩ : ∃ q, q = w1.heap.size := ⟨_, rfl⟩
  rw [← hq] at kq hgq ⊢
  have hqw : w.heap.size ≤ q := by rw [hq]; exact hb.size
  clear hst hld k1 hb hL2 hq
  have h0 : s.key0.length = 32 := hs 1 (by decide)
  have hld : (Instr.loadAt 24 (.pointer (some ⟨q, 37, none⟩))).run Tryz.prog w2 = .ok (.agg (hC s.key0)) w2 := loadTermK hs kq 0 (by decide)
  obtain ⟨w3, hst, kq3, hg3⟩ := storeTermK hs kq s.key0 h0
  have k3 := k2.grown hg3 (fun e => by injection e with e; omega)
  go_upto_region 3 with (first
    | (guard_target =~ wpList _ _ _ (_ :: _) _ _; refine wpList_load rfl 24 (.tmp 6) rfl (.pointer (some ⟨q, 37, none⟩)) rfl hld ?_)
    | (guard_target =~ wpList _ _ _ (_ :: _) _ _; refine wpList_store rfl 24 (.tmp 9) (.tmp 7) rfl (.pointer (some ⟨q, 69, none⟩)) (.agg (hC s.key0)) rfl rfl hst ?_)
    | fail)
  clear hst hld kq k2
  obtain ⟨x, r, hxr⟩ : ∃ x r, s.key0 = x :: r := by
    cases h : s.key0 with
    | nil => rw [h] at h0; cases h0
    | cons x r => exact ⟨x, r, rfl⟩
  rw [hxr] at kq3
  have hxl : (x :: r).length = 32 := hxr ▸ h0
  have hs3 : (s.setH 2 (x :: r)).wf := Said.setH_wf hs 2 _ hxl
  have c69 : w3.cell? ⟨q, 69, none⟩ = some (.int .u8 (x.toNat : Int)) := (kq3.cell 69).trans (by
    have := termsC_key hs3 1 (by decide) 0 (by decide)
    exact this.trans (by rw [show (s.setH 2 (x :: r)).h (1 + 1) = x :: r from rfl, hC_full _ hxl]; rfl))
  have f69 : w3.frozen? ⟨q, 69, none⟩ = false := kq3.frozen 69
  have k4 := kq3.set 69 (byteV (x + 1))
  rw [show (termsC (s.setH 2 (x :: r))).setIfInBounds 69 (byteV (x + 1)) = termsC (s.setH 2 (bump s.key0)) from by
    rw [hxr]
    exact termsC_put (s' := (s.setH 2 (bump (x :: r)))) hs3 (Said.setH_wf hs 2 _ (by rw [bump_len]; exact hxl)) [byteV (x + 1)] 69 (Nat.le_of_ble_eq_true rfl) (said_key1 hs3 x r (x + 1) rfl)] at k4
  have K4 := Lib.hid k4
  clear k4
  have hg4 := grown_set w3 q 69 (byteV (x + 1))
  have k4 := k3.grown hg4 (fun e => by injection e with e; omega)
  have hb4 : Below w.heap.size w (w3.setCell ⟨q, 69, none⟩ (byteV (x + 1))) := (Below.grown hb2.below hg3 hb2.size (fun j e => by cases e; exact hqw)).setCell hqw _
  have hby : Value.int .u8 (((x.toNat : Int) + 1) % 256) = byteV (x + 1) := by
    unfold byteV
    rw [UInt8.toNat_add]
    congr 1
  have HBY := Lib.hid hby
  clear hby hg4 hg3 hb2 k3 kq3
  have HB4 := Lib.hid hb4
  clear hb4
  go_upto_region 4 with fail
  rw [HBY.out]
  clear c69 f69 HBY
  generalize w3.setCell ⟨q, 69, none⟩ (byteV (x + 1)) = w4 at *
  have hs4 : (s.setH 2 (bump s.key0)).wf := Said.setH_wf hs 2 _ (by rw [bump_len]; exact h0)
  have HLD := Lib.hid (loadTerms hs4 K4.out)
  have hct := refTerms_any _ hs4 w4
  rw [tmB_bump hs, H4.out] at hct
  have HCT := Lib.hid hct
  have HLF : Hid ((Instr.loadAt 24 (.pointer (some ⟨g, 0, none⟩))).run Tryz.prog w4 = .ok (.agg (hC s.fund)) w4) := Lib.hid (by
    have hz : (hC s.fund).size = 32 := hC_size _ (Nat.le_of_eq (hs 0 (by decide)))
    exact run_load_part k4 (fun i hi => termsC_fund hs i (by omega)) Tryz.underlying24 rfl (by rw [hz]; exact infoH))
  have HLK : Hid ((Instr.loadAt 24 (.pointer (some ⟨g, 69, none⟩))).run Tryz.prog w4 = .ok (.agg (hC s.key1)) w4) := Lib.hid (loadTermK hs k4 1 (by decide))
  have c32 : w4.cell? ⟨g, 32, none⟩ = some (.int .i64 s.tix) := (k4.cell _).trans (termsC_n hs 0 (by decide))
  clear hct hxr hxl hs3 k4 K4 h0
  generalize s.setH 2 (bump s.key0) = s' at *
  cases b1
  · go_wp2_with (first
      | (guard_target =~ wpList _ _ _ (_ :: _) _ _; refine wpList_load rfl 24 (.tmp 18) rfl (.pointer (some ⟨g, 0, none⟩)) rfl HLF.out ?_)
      | (guard_target =~ wpList _ _ _ (_ :: _) _ _; refine wpList_build rfl 24 #[] rfl #[] rfl (buildZ _) ?_)
      | (guard_target =~ wpList _ _ _ (_ :: _) _ _; refine wpList_binop rfl .eql 24 _ (.tmp 19) (.tmp 20) rfl (.agg (hC s.fund)) (.agg (hC z32)) rfl rfl (by kernel_rfl) (HF.out _) ?_)
      | fail)
    go_ret
    exact ⟨rfl, HB4.out⟩
  cases b2
  · go_wp2_with (first
      | (guard_target =~ wpList _ _ _ (_ :: _) _ _; refine wpList_load rfl 24 (.tmp 18) rfl (.pointer (some ⟨g, 0, none⟩)) rfl HLF.out ?_)
      | (guard_target =~ wpList _ _ _ (_ :: _) _ _; refine wpList_build rfl 24 #[] rfl #[] rfl (buildZ _) ?_)
      | (guard_target =~ wpList _ _ _ (_ :: _) _ _; refine wpList_binop rfl .eql 24 _ (.tmp 19) (.tmp 20) rfl (.agg (hC s.fund)) (.agg (hC z32)) rfl rfl (by kernel_rfl) (HF.out _) ?_)
      | fail)
    go_ret
    exact ⟨rfl, HB4.out⟩
  cases b3
  · go_wp2_with (first
      | (guard_target =~ wpList _ _ _ (_ :: _) _ _; refine wpList_load rfl 24 (.tmp 18) rfl (.pointer (some ⟨g, 0, none⟩)) rfl HLF.out ?_)
      | (guard_target =~ wpList _ _ _ (_ :: _) _ _; refine wpList_build rfl 24 #[] rfl #[] rfl (buildZ _) ?_)
      | (guard_target =~ wpList _ _ _ (_ :: _) _ _; refine wpList_binop rfl .eql 24 _ (.tmp 19) (.tmp 20) rfl (.agg (hC s.fund)) (.agg (hC z32)) rfl rfl (by kernel_rfl) (HF.out _) ?_)
      | (guard_target =~ wpList _ _ _ (_ :: _) _ _; refine wpList_loadG rfl 24 (.tmp 29) rfl (.pointer (some ⟨g, 69, none⟩)) rfl HLK.out ?_)
      | (guard_target =~ wpList _ _ _ (_ :: _) _ _; refine wpList_buildG rfl 24 #[] rfl #[] rfl (buildZ _) ?_)
      | (guard_target =~ wpList _ _ _ (_ :: _) _ _; refine wpList_binG rfl .eql 24 _ (.tmp 30) (.tmp 31) rfl (.agg (hC s.key1)) (.agg (hC z32)) rfl rfl (by kernel_rfl) (HK.out _) ?_)
      | fail)
    go_ret
    exact ⟨rfl, HB4.out⟩
  · go_wp2_with (first
      | (guard_target =~ wpList _ _ _ (_ :: _) _ _; refine wpList_load rfl 24 (.tmp 18) rfl (.pointer (some ⟨g, 0, none⟩)) rfl HLF.out ?_)
      | (guard_target =~ wpList _ _ _ (_ :: _) _ _; refine wpList_build rfl 24 #[] rfl #[] rfl (buildZ _) ?_)
      | (guard_target =~ wpList _ _ _ (_ :: _) _ _; refine wpList_binop rfl .eql 24 _ (.tmp 19) (.tmp 20) rfl (.agg (hC s.fund)) (.agg (hC z32)) rfl rfl (by kernel_rfl) (HF.out _) ?_)
      | (guard_target =~ wpList _ _ _ (_ :: _) _ _; refine wpList_loadG rfl 24 (.tmp 29) rfl (.pointer (some ⟨g, 69, none⟩)) rfl HLK.out ?_)
      | (guard_target =~ wpList _ _ _ (_ :: _) _ _; refine wpList_buildG rfl 24 #[] rfl #[] rfl (buildZ _) ?_)
      | (guard_target =~ wpList _ _ _ (_ :: _) _ _; refine wpList_binG rfl .eql 24 _ (.tmp 30) (.tmp 31) rfl (.agg (hC s.key1)) (.agg (hC z32)) rfl rfl (by kernel_rfl) (HK.out _) ?_)
      | (guard_target =~ wpList _ _ _ (_ :: _) _ _; refine wpList_loadG rfl 27 (.tmp 3) rfl (.pointer (some ⟨q, 0, none⟩)) rfl HLD.out ?_)
      | (go_at_call 89; refine HCT.out.mono ?_; rintro e w5 ⟨rfl, hL5⟩)
      | fail)
    go_ret
    exact ⟨by simp, HB4.out.trans (hL5.below.mono HB4.out.size)⟩
end Go.Proofs.YtcajhdmppfiaeaaGreat
namespace Go.Proofs.YtcajhdmppfiaeaaGreat
open Go.RowKit
section
variable {P : Program} {Q : Exit → Act → World → Prop}
structure EnvC (ops : Array Oper) (a0 : Act) (c : Nat → Value) (so : List Nat) (i : Nat) (a : Act) : Prop where
  keep : ∀ y, keepsB ops i y = true → a.eval y = a0.eval y
  val : ∀ j t, waits ops i j = true → dstOf ops j = some t → so.contains j = false → a.eval (.tmp t) = c j
  defers : a.defers = a0.defers
def ChStep (P : Program) (ops : Array Oper) (Q : Exit → Act → World → Prop) (a0 : Act) (c : Nat → Value) (so : List Nat) (A : Nat → World → Prop) (i : Nat) (o : Oper) : Prop :=
  match so.idxOf? i with
  | some k => (k = 0 ∨ waits ops i (so.getD (k - 1) 0) = true) ∧ ∀ a W, EnvC ops a0 c so i a → A k W → o.guard = none ∧ o.wp P a W (fun a' W' => ∃ v, a' = a.put o.dst v ∧ A (k + 1) W') Q
  | none => ∀ a W m, EnvC ops a0 c so i a → A m W → StepOk P ops Q o a W (fun v _ => v = c i)
theorem chStep_val {ops : Array Oper} {a0 : Act} {c : Nat → Value} {so : List Nat} {A : Nat → World → Prop} {i : Nat} {o : Oper} (h : so.idxOf? i = none) (hs : ∀ a W m, EnvC ops a0 c so i a → A m W → StepOk P ops Q o a W (fun v _ => v = c i)) : ChStep P ops Q a0 c so A i o := by
  unfold ChStep
  rw [h]
  exact hs
theorem chStep_put {ops : Array Oper} {a0 : Act} {c : Nat → Value} {so : List Nat} {A : Nat → World → Prop} {i k : Nat} {o : Oper} (h : so.idxOf? i = some k) (hw : k = 0 ∨ waits ops i (so.getD (k - 1) 0) = true) (hs : ∀ a W, EnvC ops a0 c so i a → A k W → o.guard = none ∧ o.wp P a W (fun a' W' => ∃ v, a' = a.put o.dst v ∧ A (k + 1) W') Q) : ChStep P ops Q a0 c so A i o := by
  unfold ChStep
  rw [h]
  exact ⟨hw, hs⟩
theorem idxOf_getD {so : List Nat} {i k : Nat} (h : so.idxOf? i = some k) : k < so.length ∧ so.getD k 0 = i := by
  unfold List.idxOf? at h
  rw [List.findIdx?_eq_some_iff_getElem] at h
  obtain ⟨hk, h1, _⟩ := h
  refine ⟨hk, ?_⟩
  rw [List.getD_eq_getElem?_getD, List.getElem?_eq_getElem hk]
  simpa using h1
theorem idxOf_none {so : List Nat} {i : Nat} (h : so.idxOf? i = none) (k : Nat) (hk : k < so.length) : so.getD k 0 ≠ i := by
  unfold List.idxOf? at h
  rw [List.findIdx?_eq_none_iff] at h
  have := h so[k] (List.getElem_mem hk)
  rw [List.getD_eq_getElem?_getD, List.getElem?_eq_getElem hk]
  simpa using this
theorem wpIn_region_chain {F : Fence} (hF : Wide F) {n : Nat} {id : Nat} {o : Oper} {os : List Oper} {a0 : Act} {w : World} (cs : List Value) (so : List Nat) (A : Nat → World → Prop) (hA : ∀ m W W', Later W W' → A m W → A m W') (hA0 : A 0 w)
    (hm : P.follows .mixedOrders = true) (hp : plainAll (o :: os).toArray = true) (hd : dstsB (o :: os).toArray = true) (hb : backB (o :: os).toArray = true) (ha : ancB (o :: os).toArray = true) (hin : dstIn (o :: os).toArray a0.tmps.size = true) (hg : (lastL o os).guard = none)
    (hnd : so.Nodup) (hso : (so.all fun i => decide (i < (initL o os).length)) = true)
    (step : AllFrom (ChStep P (o :: os).toArray Q a0 (fun i => cs.getD i undef) so A) 0 (initL o os))
    (fin : ∀ xs W, A so.length W → (∀ j, j < (initL o os).length → so.contains j = false → xs j = cs.getD j undef) → (∀ y, keepsB (o :: os).toArray (initL o os).length y = true → (putL (initL o os) 0 xs a0).eval y = a0.eval y) → (∀ j t, j < (initL o os).length → dstOf (o :: os).toArray j = some t → (putL (initL o os) 0 xs a0).eval (.tmp t) = xs j) →
      LastOk P (lastL o os) (putL (initL o os) 0 xs a0) W Q) : (Code.region id (o :: os).toArray true).wpIn F n P Q a0 w := by
  refine wpIn_region_lastY hF (fun f xs W => (∀ i, f i = true → so.contains i = false → xs i = cs.getD i undef) ∧ ∃ m, m ≤ so.length ∧ (∀ k, k < so.length → f (so.getD k 0) = decide (k < m)) ∧ A m W) ⟨fun i h => by simp at h, 0, Nat.zero_le _, fun k _ => by simp, hA _ _ _ ((Later.refl w).drew) hA0⟩ hm hp hd hb ha hin hg ?_ ?_
  · have key : ∀ (l : List Oper) (i : Nat), AllFrom (ChStep P (o :: os).toArray Q a0 (fun i => cs.getD i undef) so A) i l → AllFrom (fun i o' => ∀ a W f xs, ((∀ i, f i = true → so.contains i = false → xs i = cs.getD i undef) ∧ ∃ m, m ≤ so.length ∧ (∀ k, k < so.length → f (so.getD k 0) = decide (k < m)) ∧ A m W) → EnvY (o :: os).toArray a0 f i a xs →
        StepOkY P (o :: os).toArray Q o' a W (fun v W' => (∀ j, updB f i j = true → so.contains j = false → upd xs i v j = cs.getD j undef) ∧ ∃ m, m ≤ so.length ∧ (∀ k, k < so.length → updB f i (so.getD k 0) = decide (k < m)) ∧ A m W')) i l := by
      intro l
      induction l with
      | nil => intro i h; exact h
      | cons o' l ih =>
        intro i h
        obtain ⟨h1, h2⟩ := h
        refine ⟨fun a W f xs hI he => ?_, ih _ h2⟩
        obtain ⟨hc, m, hml, hfm, hAm⟩ := hI
        have henv : EnvC (o :: os).toArray a0 (fun i => cs.getD i undef) so i a := ⟨he.keep, fun j t hw ht hj => (he.val j t hw ht).trans (hc j (he.done j hw) hj), he.defers⟩
        unfold ChStep at h1
        cases hk : so.idxOf? i with
        | some k =>
          rw [hk] at h1
          obtain ⟨hw, h3⟩ := h1
          obtain ⟨hkl, hki⟩ := idxOf_getD hk
          have e1 : ¬ k < m := by
            have := hfm k hkl
            rw [hki, he.todo] at this
            intro h
            rw [decide_eq_true h] at this
            cases this
          have e2 : k ≤ m := by
            rcases hw with h | h
            · omega
            · by_cases h0 : k = 0
              · omega
              have h4 := he.done _ h
              rw [hfm (k - 1) (by omega)] at h4
              have := of_decide_eq_true h4
              omega
          obtain rfl : k = m := by omega
          obtain ⟨hg', h4⟩ := h3 a W henv hAm
          have hsc : so.contains i = true := by
            rw [List.contains_iff_mem, ← hki, List.getD_eq_getElem?_getD, List.getElem?_eq_getElem hkl]
            exact List.getElem_mem hkl
          refine stepOkY_want hg' (Oper.wp_mono (fun a' W' ⟨v, e, hv⟩ => ⟨v, e, fun j hj hjs => ?_, k + 1, hkl, fun k' hk' => ?_, hv⟩) h4)
          · have hji : j ≠ i := fun e => by rw [e, hsc] at hjs; cases hjs
            rw [upd_ne xs v hji]
            exact hc j (by simpa [updB, hji] using hj) hjs
          · by_cases e : k' = k
            · subst e
              rw [hki]
              simp [updB]
            · have hne : so.getD k' 0 ≠ i := fun e3 => e (by
                rw [← hki, List.getD_eq_getElem?_getD, List.getD_eq_getElem?_getD, List.getElem?_eq_getElem hkl, List.getElem?_eq_getElem hk'] at e3
                exact (List.getElem_inj hnd).1 e3)
              have := hfm k' hk'
              simp only [updB, if_neg hne, this]
              exact decide_eq_decide.2 (by omega)
        | none =>
          rw [hk] at h1
          have h4 := h1 a W m henv hAm
          have hR : ∀ v W', Later W W' → v = cs.getD i undef → (∀ j, updB f i j = true → so.contains j = false → upd xs i v j = cs.getD j undef) ∧ ∃ m, m ≤ so.length ∧ (∀ k, k < so.length → updB f i (so.getD k 0) = decide (k < m)) ∧ A m W' := fun v W' hL hv => by
            refine ⟨fun j hj hjs => ?_, m, hml, fun k hkl => ?_, hA _ _ _ hL hAm⟩
            · by_cases e : j = i
              · subst e; rw [upd_self]; exact hv
              · rw [upd_ne xs v e]
                exact hc j (by simpa [updB, e] using hj) hjs
            · have hne := idxOf_none hk k hkl
              simp only [updB, if_neg hne]
              exact hfm k hkl
          unfold StepOk at h4
          unfold StepOkY
          split
          · rename_i hw
            rw [if_pos hw] at h4
            exact Oper.wp_mono (fun a' W' ⟨v, e, hL, hv⟩ => ⟨v, e, hR v W' hL hv⟩) h4
          · rename_i hw
            rw [if_neg hw] at h4
            exact hR _ _ (Later.refl W) h4
    exact key _ _ step
  · intro f xs W hI hall _ hk hget
    obtain ⟨hc, m, hml, hfm, hAm⟩ := hI
    have hmm : m = so.length := by
      by_cases e : m = so.length
      · exact e
      have hlt : m < so.length := by omega
      have h1 := hfm m hlt
      rw [hall] at h1
      · simp at h1
      · have := List.all_eq_true.1 hso (so.getD m 0) (by
          rw [List.getD_eq_getElem?_getD, List.getElem?_eq_getElem hlt]
          exact List.getElem_mem hlt)
        exact of_decide_eq_true this
    subst hmm
    exact fin xs W hAm (fun j hj hjs => hc j (hall j hj) hjs) hk hget
end
end Go.Proofs.YtcajhdmppfiaeaaGreat
namespace Go.Proofs.YtcajhdmppfiaeaaGreat
open Go.RowKit Ms
def cpT (s t : Said) : Said := ((((((((t.setH 0 s.fund).setN 0 s.tix).setN 1 s.cap).setN 2 s.dust).setN 3 s.fee).setN 4 s.delay).setH 1 s.key0).setH 2 s.key1)
theorem cpT_wf {s t : Said} (hs : s.wf) (ht : t.wf) : (cpT s t).wf :=
  Said.setH_wf (Said.setH_wf (Said.setN_wf (Said.setN_wf (Said.setN_wf (Said.setN_wf (Said.setN_wf (Said.setH_wf ht 0 _ (hs 0 (by decide))) _ _) _ _) _ _) _ _) _ _) 1 _ (hs 1 (by decide))) 2 _ (hs 2 (by decide))
theorem out_h {s : Said} (h : s.wf) (j : Nat) (hj : j < 9) (v : List UInt8) (hv : v.length = 32) (i : Nat) (hi : i < offH j ∨ offH j + 32 ≤ i) : (saidC (s.setH j v))[i]? = (saidC s)[i]? := by
  have hz := hC_size v (Nat.le_of_eq hv)
  rw [← saidC_setH h j hj v hv, setFrom_get _ _ _ _ (by rw [Array.length_toList, hz, saidC_size h]; exact offH_le j hj), if_neg (by rw [Array.length_toList, hz]; omega)]
theorem out_n {s : Said} (h : s.wf) (j : Nat) (hj : j < 12) (v : Int) (i : Nat) (hi : i ≠ offN j) : (saidC (s.setN j v))[i]? = (saidC s)[i]? := by
  rw [← saidC_setN h j hj v, Array.getElem?_setIfInBounds_ne (fun e => hi e.symm)]
theorem cpT_put {s t : Said} (hs : s.wf) (ht : t.wf) : setFrom (saidC t) 1 (termsC s).toList = saidC (cpT s t) := by
  apply Array.ext_getElem?
  intro i
  have hz := termsC_size hs
  have hw := cpT_wf hs ht
  rw [setFrom_get _ _ _ _ (by rw [Array.length_toList, hz, saidC_size ht]; decide), Array.length_toList, hz]
  by_cases hi : 1 ≤ i ∧ i < 1 + 101
  · rw [if_pos hi, Array.getElem?_toList, termsC_get hs _ (by omega), show 1 + (i - 1) = i by omega]
    have hh : ∀ j, j < 3 → offH j ≤ i → i < offH j + 32 → (saidC s)[i]? = (saidC (cpT s t))[i]? := fun j hj h1 h2 => by
      have e1 := saidC_h hs j (by omega) (i - offH j) (by omega)
      have e2 := saidC_h hw j (by omega) (i - offH j) (by omega)
      rw [show offH j + (i - offH j) = i by omega] at e1 e2
      rw [e1, e2]
      rcases j with _ | _ | _ | j
      · rfl
      · rfl
      · rfl
      · omega
    have hn : ∀ j, j < 5 → i = offN j → (saidC s)[i]? = (saidC (cpT s t))[i]? := fun j hj h1 => by
      rw [h1, saidC_n hs j (by omega), saidC_n hw j (by omega)]
      rcases j with _ | _ | _ | _ | _ | j
      · rfl
      · rfl
      · rfl
      · rfl
      · rfl
      · omega
    have h0 : offH 0 = 1 := rfl
    have h1 : offH 1 = 38 := rfl
    have h2 : offH 2 = 70 := rfl
    have n0 : offN 0 = 33 := rfl
    have n1 : offN 1 = 34 := rfl
    have n2 : offN 2 = 35 := rfl
    have n3 : offN 3 = 36 := rfl
    have n4 : offN 4 = 37 := rfl
    by_cases c0 : i < 33
    · exact hh 0 (by decide) (by omega) (by omega)
    by_cases c1 : 70 ≤ i
    · exact hh 2 (by decide) (by omega) (by omega)
    by_cases c2 : 38 ≤ i
    · exact hh 1 (by decide) (by omega) (by omega)
    by_cases c3 : i = 33
    · exact hn 0 (by decide) (by omega)
    by_cases c4 : i = 34
    · exact hn 1 (by decide) (by omega)
    by_cases c5 : i = 35
    · exact hn 2 (by decide) (by omega)
    by_cases c6 : i = 36
    · exact hn 3 (by decide) (by omega)
    · exact hn 4 (by decide) (by omega)
  · rw [if_neg hi]
    have a0 := Said.setH_wf ht 0 s.fund (hs 0 (by decide))
    have a1 := Said.setN_wf a0 0 s.tix
    have a2 := Said.setN_wf a1 1 s.cap
    have a3 := Said.setN_wf a2 2 s.dust
    have a4 := Said.setN_wf a3 3 s.fee
    have a5 := Said.setN_wf a4 4 s.delay
    have a6 := Said.setH_wf a5 1 s.key0 (hs 1 (by decide))
    have h0 : offH 0 = 1 := rfl
    have h1 : offH 1 = 38 := rfl
    have h2 : offH 2 = 70 := rfl
    have n0 : offN 0 = 33 := rfl
    have n1 : offN 1 = 34 := rfl
    have n2 : offN 2 = 35 := rfl
    have n3 : offN 3 = 36 := rfl
    have n4 : offN 4 = 37 := rfl
    unfold cpT
    rw [out_h a6 2 (by decide) s.key1 (hs 2 (by decide)) i (by omega), out_h a5 1 (by decide) s.key0 (hs 1 (by decide)) i (by omega), out_n a4 4 (by decide) _ i (by omega), out_n a3 3 (by decide) _ i (by omega), out_n a2 2 (by decide) _ i (by omega), out_n a1 1 (by decide) _ i (by omega), out_n a0 0 (by decide) _ i (by omega), out_h ht 0 (by decide) s.fund (hs 0 (by decide)) i (by omega)]
theorem storeSaidT {w : World} {g : Nat} {s t : Said} (hs : s.wf) (ht : t.wf) (hr : Row w g 29 (saidC t)) : ∃ w', (Instr.storeAt 27 (.pointer (some ⟨g, 1, none⟩)) (.agg (termsC s))).run Tryz.prog w = .ok () w' ∧ Row w' g 29 (saidC (cpT s t)) ∧ w.grownBy w' (some g) := by
  have hz := termsC_size hs
  refine ⟨_, run_store_row hr (termsC s) (by rw [hz]; exact infoTerms) (by rw [hz, saidC_size ht]; decide) (termsC_one s), ?_, grown_setCells _ _ _⟩
  have h2 := row_setCells (termsC s).toList 1 w _ hr
  rwa [cpT_put hs ht] at h2
structure NA (w : World) (g1 g2 g3 : Nat) (s : Said) (L : Nat → Said) (m : Nat) (W : World) : Prop where
  low : Below g1 w W
  src : Row W g1 29 (saidC s)
  res : Row W g2 29 (saidC (Ms.blank 0))
  wf : (L m).wf
  row : Row W g3 29 (saidC (L m))
  lt : g1 < g2 ∧ g2 < g3
theorem NA.later {w W W' : World} {g1 g2 g3 : Nat} {s : Said} {L : Nat → Said} {m : Nat} (h : NA w g1 g2 g3 s L m W) (hL : Later W W') : NA w g1 g2 g3 s L m W' :=
  ⟨h.low.trans (hL.below.mono (Nat.le_of_lt h.src.lt)), h.src.later hL, h.res.later hL, h.wf, h.row.later hL, h.lt⟩
theorem NA.put {w W W' : World} {g1 g2 g3 : Nat} {s : Said} {L : Nat → Said} {m k : Nat} (h : NA w g1 g2 g3 s L m W) (hg : W.grownBy W' (some g3)) (hw : (L k).wf) (hr : Row W' g3 29 (saidC (L k))) : NA w g1 g2 g3 s L k W' :=
  ⟨h.low.grown hg (Nat.le_of_lt h.src.lt) (fun j e => by injection e with e; have := h.lt; omega), h.src.grown hg (fun e => by injection e with e; have := h.lt; omega), h.res.grown hg (fun e => by injection e with e; have := h.lt; omega), hw, hr, h.lt⟩
theorem na_n {w W : World} {g1 g2 g3 : Nat} {s : Said} {L : Nat → Said} {m : Nat} (h : NA w g1 g2 g3 s L m W) (j : Nat) (hj : j < 12) (hL : L (m + 1) = (L m).setN j (s.n j)) : ∃ W', (Instr.storeAt 2 (.pointer (some ⟨g3, offN j, none⟩)) (.int .i64 (s.n j))).run Tryz.prog W = .ok () W' ∧ NA w g1 g2 g3 s L (m + 1) W' := by
  obtain ⟨h1, h2⟩ := storeSaidN h.wf h.row j hj (s.n j)
  exact ⟨_, h1, h.put (grown_set _ _ _ _) (by rw [hL]; exact Said.setN_wf h.wf _ _) (by rw [hL]; exact h2)⟩
theorem na_h {w W : World} {g1 g2 g3 : Nat} {s : Said} {L : Nat → Said} {m : Nat} (h : NA w g1 g2 g3 s L m W) (hs : s.wf) (j : Nat) (hj : j < 9) (hL : L (m + 1) = (L m).setH j (s.h j)) : ∃ W', (Instr.storeAt 24 (.pointer (some ⟨g3, offH j, none⟩)) (.agg (hC (s.h j)))).run Tryz.prog W = .ok () W' ∧ NA w g1 g2 g3 s L (m + 1) W' := by
  obtain ⟨W', h1, h2, h3⟩ := storeSaidH h.wf h.row j hj (s.h j) (hs j hj)
  exact ⟨W', h1, h.put h3 (by rw [hL]; exact Said.setH_wf h.wf _ _ (hs j hj)) (by rw [hL]; exact h2)⟩
theorem na_r {w W : World} {g1 g2 g3 : Nat} {s : Said} {L : Nat → Said} {m : Nat} (h : NA w g1 g2 g3 s L m W) (hL : L (m + 1) = (L m).setR s.route) : ∃ W', (Instr.storeAt 9 (.pointer (some ⟨g3, 301, none⟩)) (.string ⟨s.route.toArray⟩)).run Tryz.prog W = .ok () W' ∧ NA w g1 g2 g3 s L (m + 1) W' := by
  obtain ⟨h1, h2⟩ := storeSaidR h.wf h.row s.route
  exact ⟨_, h1, h.put (grown_set _ _ _ _) (by rw [hL]; exact Said.setR_wf h.wf _) (by rw [hL]; exact h2)⟩
theorem na_t {w W : World} {g1 g2 g3 : Nat} {s : Said} {L : Nat → Said} {m : Nat} (h : NA w g1 g2 g3 s L m W) (hs : s.wf) (hL : L (m + 1) = cpT s (L m)) : ∃ W', (Instr.storeAt 27 (.pointer (some ⟨g3, 1, none⟩)) (.agg (termsC s))).run Tryz.prog W = .ok () W' ∧ NA w g1 g2 g3 s L (m + 1) W' := by
  obtain ⟨W', h1, h2, h3⟩ := storeSaidT hs h.wf h.row
  exact ⟨W', h1, h.put h3 (by rw [hL]; exact cpT_wf hs h.wf) (by rw [hL]; exact h2)⟩
def nmL (s : Said) (k : Int) : List Said :=
  let b := Ms.blank k
  if k = 1 then [b, cpT s b, (cpT s b).setN 5 s.reserve, ((cpT s b).setN 5 s.reserve).setN 6 s.amount, (((cpT s b).setN 5 s.reserve).setN 6 s.amount).setH 3 s.point, ((((cpT s b).setN 5 s.reserve).setN 6 s.amount).setH 3 s.point).setH 4 s.next]
  else if k = 2 then [b, b.setH 5 s.key, (b.setH 5 s.key).setH 3 s.point, ((b.setH 5 s.key).setH 3 s.point).setH 4 s.next]
  else if k = 3 then [b, b.setH 6 s.hash, (b.setH 6 s.hash).setN 9 s.index, ((b.setH 6 s.hash).setN 9 s.index).setH 7 s.tag]
  else if k = 4 then [b, b.setH 7 s.tag]
  else if k = 6 then [b, b.setN 7 s.id, (b.setN 7 s.id).setN 6 s.amount, ((b.setN 7 s.id).setN 6 s.amount).setH 6 s.hash, (((b.setN 7 s.id).setN 6 s.amount).setH 6 s.hash).setN 10 s.expiry, ((((b.setN 7 s.id).setN 6 s.amount).setH 6 s.hash).setN 10 s.expiry).setR s.route]
  else if k = 7 then [b, b.setN 7 s.id, (b.setN 7 s.id).setH 8 s.secret]
  else if k = 8 then [b, b.setN 7 s.id, (b.setN 7 s.id).setN 11 s.code]
  else if k = 9 then [b, b.setN 8 s.number, (b.setN 8 s.number).setH 7 s.tag]
  else if k = 10 then [b, b.setN 8 s.number, (b.setN 8 s.number).setH 8 s.secret, ((b.setN 8 s.number).setH 8 s.secret).setH 4 s.next]
  else if k = 11 then [b, b.setN 8 s.number, (b.setN 8 s.number).setN 7 s.id]
  else if k = 13 then [b, b.setN 6 s.amount, (b.setN 6 s.amount).setH 7 s.tag]
  else if k = 14 then [b, b.setN 11 s.code]
  else [b]
def nmAt (s : Said) (k : Int) (m : Nat) : Said := (nmL s k).getD m (Ms.blank k)
def nmd (s : Said) (k : Int) : Said := nmAt s k ((nmL s k).length - 1)
theorem fieldSd {g : Nat} {W : World} : (∀ i o, (i, o) ∈ [(1, 1), (2, 102), (3, 103), (4, 104), (5, 136), (6, 168), (7, 200), (8, 232), (9, 264), (10, 296), (11, 297), (12, 298), (13, 299), (14, 300), (15, 301)] → (Instr.fieldAt 29 (.pointer (some ⟨g, 0, none⟩)) i).run Tryz.prog W = .ok (.pointer (some ⟨g, o, none⟩)) W) := by
  intro i o h
  simp only [List.mem_cons, Prod.mk.injEq, List.not_mem_nil, or_false] at h
  rcases h with ⟨rfl, rfl⟩ | ⟨rfl, rfl⟩ | ⟨rfl, rfl⟩ | ⟨rfl, rfl⟩ | ⟨rfl, rfl⟩ | ⟨rfl, rfl⟩ | ⟨rfl, rfl⟩ | ⟨rfl, rfl⟩ | ⟨rfl, rfl⟩ | ⟨rfl, rfl⟩ | ⟨rfl, rfl⟩ | ⟨rfl, rfl⟩ | ⟨rfl, rfl⟩ | ⟨rfl, rfl⟩ | ⟨rfl, rfl⟩
  all_goals go_simp
end Go.Proofs.YtcajhdmppfiaeaaGreat
namespace Go.Proofs.YtcajhdmppfiaeaaGreat
open Go.RowKit Ms
theorem newBlank (w : World) (k : Int) : ∃ w', (Instr.storeAt 29 (.pointer (some ⟨w.heap.size, 0, none⟩)) (.agg (saidC (Ms.blank k)))).run Tryz.prog (w.alloc (.cells (saidC (Ms.blank 0)) 29)) = .ok () w' ∧ Row w' w.heap.size 29 (saidC (Ms.blank k)) ∧ Later w w' := newSaid w (blank_wf k)
set_option maxRecDepth 100000 in
set_option maxHeartbeats 2000000 in
theorem named1 (s : Said) (hs : s.wf) (hk : s.kind = 1) (w : World) : Calls Tryz.prog 28 #[.agg (saidC s)] w fun e w' => e = .returned (.agg (saidC (nmd s 1))) ∧ Later w w' := by
  have k1 := Row.new w 29 (saidC s)
  have hbx := boxSaid hs w
  have hb1 := below_new w (.cells (saidC s) 29)
  go_enter Tryz.func28, Tryz.ntmps28
  go_upto_region 1 with (first
    | (with_reducible refine wpList_alloc rfl 29 rfl (allocSaid _) ?_)
    | fail)
  obtain ⟨g1, hg1⟩ : ∃ q, q = w.heap.size := ⟨_, rfl⟩
  have k1' := k1.alloc (.cells (saidC (Ms.blank 0)) 29)
  have k2 := Row.new (w.alloc (.cells (saidC s) 29)) 29 (saidC (Ms.blank 0))
  have hb2 := hb1.alloc hb1.size (.cells (saidC (Ms.blank 0)) 29)
  obtain ⟨g2, hg2⟩ : ∃ q, q = (w.alloc (.cells (saidC s) 29)).heap.size := ⟨_, rfl⟩
  have hg12 : g1 < g2 := by rw [hg1, hg2]; exact k1.lt
  clear hbx k1 hb1
  rw [← hg2] at k2
  rw [← hg1] at k1' hb2
  first | rw [← hg2] | skip
  rw [← hg1]
  generalize (w.alloc (.cells (saidC s) 29)).alloc (.cells (saidC (Ms.blank 0)) 29) = w2 at *
  have HG1 := Lib.hid hg1
  clear hg1 hg2
  obtain ⟨w3, hst, k3, hL3⟩ := newBlank w2 s.kind
  have c0 : w2.cell? ⟨g1, 0, none⟩ = some (.int .i64 s.kind) := (k1'.cell 0).trans (saidC_kind hs)
  have k23 := k2.lt
  rw [hk] at hst k3 c0
  have k13 := k1'.later hL3
  have hA0 : NA w g1 g2 w2.heap.size s (nmAt s (1)) 0 w3 := ⟨hb2.trans (hL3.below.mono (Nat.le_of_lt k1'.lt)), k13, k2.later hL3, blank_wf _, k3, hg12, k23⟩
  clear k1' hb2 hg12 k23 hL3 k3 k2
  go_upto_region 2 with (first
    | (guard_target =~ wpList _ _ _ (_ :: _) _ _; refine wpList_build rfl 29 _ rfl #[(0, .int .i64 (1))] (by simp only [List.map_toArray, List.map_cons, List.map_nil]; rfl) (buildSaidK _ _) ?_)
    | (with_reducible refine wpList_alloc rfl 29 rfl (allocSaid _) ?_)
    | (guard_target =~ wpList _ _ _ (_ :: _) _ _; refine wpList_store rfl 29 (.tmp 3) (.tmp 6) rfl (.pointer (some ⟨w2.heap.size, 0, none⟩)) (.agg (saidC (Ms.blank (1)))) rfl rfl hst ?_)
    | fail)
  clear hst c0
  obtain ⟨g3, hg3⟩ : ∃ q, q = w2.heap.size := ⟨_, rfl⟩
  rw [← hg3] at hA0 ⊢
  clear hg3
  have c0 : w3.cell? ⟨g1, 0, none⟩ = some (.int .i64 (1)) := (k13.cell 0).trans ((saidC_kind hs).trans (by rw [hk]))
  clear k13
  go_upto_region 4 with fail
  refine (wpIn_wide (n := 0)).1 ?_
  refine wpIn_region_chain wide_wide [.pointer (some ⟨g1, 1, none⟩), .agg (termsC s), .pointer (some ⟨g1, offN 5, none⟩), .int .i64 (s.n 5), .pointer (some ⟨g1, offN 6, none⟩), .int .i64 (s.n 6), .pointer (some ⟨g1, offH 3, none⟩), .agg (hC (s.h 3)), .pointer (some ⟨g1, offH 4, none⟩), .agg (hC (s.h 4)), .pointer (some ⟨g3, 1, none⟩), undef, .pointer (some ⟨g3, offN 5, none⟩), undef, .pointer (some ⟨g3, offN 6, none⟩), undef, .pointer (some ⟨g3, offH 3, none⟩), undef, .pointer (some ⟨g3, offH 4, none⟩)] [11, 13, 15, 17] (NA w g1 g2 g3 s (nmAt s 1)) (fun m W W' hL h => h.later hL) hA0 (by kernel_rfl) (by kernel_rfl) (by kernel_rfl) (by kernel_rfl) (by kernel_rfl) (by kernel_rfl) rfl (by decide) rfl ⟨?_, ?_, ?_, ?_, ?_, ?_, ?_, ?_, ?_, ?_, ?_, ?_, ?_, ?_, ?_, ?_, ?_, ?_, ?_, trivial⟩ ?_
  · exact chStep_val rfl (fun ac W m he hA => stepOk_want rfl (op_fieldAddr rfl (he.keep (.tmp 1) (by kernel_rfl)) (fieldSd 1 1 (by decide)) rfl))
  · exact chStep_val rfl (fun ac W m he hA => stepOk_want rfl (op_load rfl (show ac.eval (.tmp 11) = .pointer (some ⟨g1, 1, none⟩) from he.val 0 11 (by kernel_rfl) rfl rfl) (loadSaidT hs hA.src) rfl))
  · exact chStep_val rfl (fun ac W m he hA => stepOk_want rfl (op_fieldAddr rfl (he.keep (.tmp 1) (by kernel_rfl)) (fieldSd 2 102 (by decide)) rfl))
  · exact chStep_val rfl (fun ac W m he hA => stepOk_want rfl (op_load rfl (show ac.eval (.tmp 13) = .pointer (some ⟨g1, offN 5, none⟩) from he.val 2 13 (by kernel_rfl) rfl rfl) (loadSaidN hs hA.src 5 (by decide)) rfl))
  · exact chStep_val rfl (fun ac W m he hA => stepOk_want rfl (op_fieldAddr rfl (he.keep (.tmp 1) (by kernel_rfl)) (fieldSd 3 103 (by decide)) rfl))
  · exact chStep_val rfl (fun ac W m he hA => stepOk_want rfl (op_load rfl (show ac.eval (.tmp 15) = .pointer (some ⟨g1, offN 6, none⟩) from he.val 4 15 (by kernel_rfl) rfl rfl) (loadSaidN hs hA.src 6 (by decide)) rfl))
  · exact chStep_val rfl (fun ac W m he hA => stepOk_want rfl (op_fieldAddr rfl (he.keep (.tmp 1) (by kernel_rfl)) (fieldSd 4 104 (by decide)) rfl))
  · exact chStep_val rfl (fun ac W m he hA => stepOk_want rfl (op_load rfl (show ac.eval (.tmp 17) = .pointer (some ⟨g1, offH 3, none⟩) from he.val 6 17 (by kernel_rfl) rfl rfl) (loadSaidH hs hA.src 3 (by decide)) rfl))
  · exact chStep_val rfl (fun ac W m he hA => stepOk_want rfl (op_fieldAddr rfl (he.keep (.tmp 1) (by kernel_rfl)) (fieldSd 5 136 (by decide)) rfl))
  · exact chStep_val rfl (fun ac W m he hA => stepOk_want rfl (op_load rfl (show ac.eval (.tmp 19) = .pointer (some ⟨g1, offH 4, none⟩) from he.val 8 19 (by kernel_rfl) rfl rfl) (loadSaidH hs hA.src 4 (by decide)) rfl))
  · exact chStep_val rfl (fun ac W m he hA => stepOk_want rfl (op_fieldAddr rfl (he.keep (.tmp 3) (by kernel_rfl)) (fieldSd 1 1 (by decide)) rfl))
  · refine chStep_put (k := 0) rfl (.inl rfl) (fun ac W he hA => ⟨rfl, ?_⟩)
    obtain ⟨W', hr, hA'⟩ := na_t hA hs rfl
    exact op_storeK rfl (show ac.eval (.tmp 21) = .pointer (some ⟨g3, 1, none⟩) from he.val 10 21 (by kernel_rfl) rfl rfl) (show ac.eval (.tmp 12) = .agg (termsC s) from he.val 1 12 (by kernel_rfl) rfl rfl) hr ⟨undef, rfl, hA'⟩
  · exact chStep_val rfl (fun ac W m he hA => stepOk_want rfl (op_fieldAddr rfl (he.keep (.tmp 3) (by kernel_rfl)) (fieldSd 2 102 (by decide)) rfl))
  · refine chStep_put (k := 1) rfl (.inr (by kernel_rfl)) (fun ac W he hA => ⟨rfl, ?_⟩)
    obtain ⟨W', hr, hA'⟩ := na_n hA 5 (by decide) rfl
    exact op_storeK rfl (show ac.eval (.tmp 22) = .pointer (some ⟨g3, offN 5, none⟩) from he.val 12 22 (by kernel_rfl) rfl rfl) (show ac.eval (.tmp 14) = .int .i64 (s.n 5) from he.val 3 14 (by kernel_rfl) rfl rfl) hr ⟨undef, rfl, hA'⟩
  · exact chStep_val rfl (fun ac W m he hA => stepOk_want rfl (op_fieldAddr rfl (he.keep (.tmp 3) (by kernel_rfl)) (fieldSd 3 103 (by decide)) rfl))
  · refine chStep_put (k := 2) rfl (.inr (by kernel_rfl)) (fun ac W he hA => ⟨rfl, ?_⟩)
    obtain ⟨W', hr, hA'⟩ := na_n hA 6 (by decide) rfl
    exact op_storeK rfl (show ac.eval (.tmp 23) = .pointer (some ⟨g3, offN 6, none⟩) from he.val 14 23 (by kernel_rfl) rfl rfl) (show ac.eval (.tmp 16) = .int .i64 (s.n 6) from he.val 5 16 (by kernel_rfl) rfl rfl) hr ⟨undef, rfl, hA'⟩
  · exact chStep_val rfl (fun ac W m he hA => stepOk_want rfl (op_fieldAddr rfl (he.keep (.tmp 3) (by kernel_rfl)) (fieldSd 4 104 (by decide)) rfl))
  · refine chStep_put (k := 3) rfl (.inr (by kernel_rfl)) (fun ac W he hA => ⟨rfl, ?_⟩)
    obtain ⟨W', hr, hA'⟩ := na_h hA hs 3 (by decide) rfl
    exact op_storeK rfl (show ac.eval (.tmp 24) = .pointer (some ⟨g3, offH 3, none⟩) from he.val 16 24 (by kernel_rfl) rfl rfl) (show ac.eval (.tmp 18) = .agg (hC (s.h 3)) from he.val 7 18 (by kernel_rfl) rfl rfl) hr ⟨undef, rfl, hA'⟩
  · exact chStep_val rfl (fun ac W m he hA => stepOk_want rfl (op_fieldAddr rfl (he.keep (.tmp 3) (by kernel_rfl)) (fieldSd 5 136 (by decide)) rfl))
  intro xs W hA hx hk hgt
  have hA : NA w g1 g2 g3 s (nmAt s 1) 4 W := hA
  obtain ⟨W', hr, hA'⟩ := na_h hA hs 4 (by decide) rfl
  refine last_store rfl rfl ((hgt 18 25 (by decide) (by kernel_rfl)).trans (show xs 18 = .pointer (some ⟨g3, offH 4, none⟩) from hx 18 (by decide) rfl)) ((hgt 9 20 (by decide) (by kernel_rfl)).trans (show xs 9 = .agg (hC (s.h 4)) from hx 9 (by decide) rfl)) hr ?_
  clear hr hA hA0 hx hk hgt
  simp only [initL, lastL, putL, Nat.reduceAdd, Act.put, List.setIfInBounds_toArray, List.set_cons_succ, List.set_cons_zero]
  have hld := loadSaid hA'.wf hA'.row
  obtain ⟨W2, hst, hr2, hgw⟩ := storeSaid (blank_wf 0) hA'.wf hA'.res
  have hb9 : Below g1 w W2 := hA'.low.grown hgw (Nat.le_of_lt hA'.src.lt) (fun j e => by injection e with e; have := hA'.lt; omega)
  have hz9 := saidC_size hA'.wf
  clear hA'
  go_wp2_with (first
    | (guard_target =~ wpList _ _ _ (_ :: _) _ _; refine wpList_load rfl 29 (.tmp 3) rfl (.pointer (some ⟨g3, 0, none⟩)) rfl hld ?_)
    | (guard_target =~ wpList _ _ _ (_ :: _) _ _; refine wpList_store rfl 29 (.tmp 2) (.tmp 126) rfl (.pointer (some ⟨g2, 0, none⟩)) _ rfl rfl hst ?_)
    | fail)
  exact bodyPost_ret (results_cell1 rfl _ _ g2 29 _ _ rfl hr2 Tryz.underlying29 rfl (by rw [hz9]; exact infoSaid)) rfl ⟨rfl, by have h9 := HG1.out; subst h9; exact hb9⟩
set_option maxRecDepth 100000 in
set_option maxHeartbeats 2000000 in
theorem named2 (s : Said) (hs : s.wf) (hk : s.kind = 2) (w : World) : Calls Tryz.prog 28 #[.agg (saidC s)] w fun e w' => e = .returned (.agg (saidC (nmd s 2))) ∧ Later w w' := by
  have k1 := Row.new w 29 (saidC s)
  have hbx := boxSaid hs w
  have hb1 := below_new w (.cells (saidC s) 29)
  go_enter Tryz.func28, Tryz.ntmps28
  go_upto_region 1 with (first
    | (with_reducible refine wpList_alloc rfl 29 rfl (allocSaid _) ?_)
    | fail)
  obtain ⟨g1, hg1⟩ : ∃ q, q = w.heap.size := ⟨_, rfl⟩
  have k1' := k1.alloc (.cells (saidC (Ms.blank 0)) 29)
  have k2 := Row.new (w.alloc (.cells (saidC s) 29)) 29 (saidC (Ms.blank 0))
  have hb2 := hb1.alloc hb1.size (.cells (saidC (Ms.blank 0)) 29)
  obtain ⟨g2, hg2⟩ : ∃ q, q = (w.alloc (.cells (saidC s) 29)).heap.size := ⟨_, rfl⟩
  have hg12 : g1 < g2 := by rw [hg1, hg2]; exact k1.lt
  clear hbx k1 hb1
  rw [← hg2] at k2
  rw [← hg1] at k1' hb2
  first | rw [← hg2] | skip
  rw [← hg1]
  generalize (w.alloc (.cells (saidC s) 29)).alloc (.cells (saidC (Ms.blank 0)) 29) = w2 at *
  have HG1 := Lib.hid hg1
  clear hg1 hg2
  obtain ⟨w3, hst, k3, hL3⟩ := newBlank w2 s.kind
  have c0 : w2.cell? ⟨g1, 0, none⟩ = some (.int .i64 s.kind) := (k1'.cell 0).trans (saidC_kind hs)
  have k23 := k2.lt
  rw [hk] at hst k3 c0
  have k13 := k1'.later hL3
  have hA0 : NA w g1 g2 w2.heap.size s (nmAt s (2)) 0 w3 := ⟨hb2.trans (hL3.below.mono (Nat.le_of_lt k1'.lt)), k13, k2.later hL3, blank_wf _, k3, hg12, k23⟩
  clear k1' hb2 hg12 k23 hL3 k3 k2
  go_upto_region 2 with (first
    | (guard_target =~ wpList _ _ _ (_ :: _) _ _; refine wpList_build rfl 29 _ rfl #[(0, .int .i64 (2))] (by simp only [List.map_toArray, List.map_cons, List.map_nil]; rfl) (buildSaidK _ _) ?_)
    | (with_reducible refine wpList_alloc rfl 29 rfl (allocSaid _) ?_)
    | (guard_target =~ wpList _ _ _ (_ :: _) _ _; refine wpList_store rfl 29 (.tmp 3) (.tmp 6) rfl (.pointer (some ⟨w2.heap.size, 0, none⟩)) (.agg (saidC (Ms.blank (2)))) rfl rfl hst ?_)
    | fail)
  clear hst c0
  obtain ⟨g3, hg3⟩ : ∃ q, q = w2.heap.size := ⟨_, rfl⟩
  rw [← hg3] at hA0 ⊢
  clear hg3
  have c0 : w3.cell? ⟨g1, 0, none⟩ = some (.int .i64 (2)) := (k13.cell 0).trans ((saidC_kind hs).trans (by rw [hk]))
  clear k13
  go_upto_region 6 with fail
  refine (wpIn_wide (n := 0)).1 ?_
  refine wpIn_region_chain wide_wide [.pointer (some ⟨g1, offH 5, none⟩), .agg (hC (s.h 5)), .pointer (some ⟨g1, offH 3, none⟩), .agg (hC (s.h 3)), .pointer (some ⟨g1, offH 4, none⟩), .agg (hC (s.h 4)), .pointer (some ⟨g3, offH 5, none⟩), undef, .pointer (some ⟨g3, offH 3, none⟩), undef, .pointer (some ⟨g3, offH 4, none⟩)] [7, 9] (NA w g1 g2 g3 s (nmAt s 2)) (fun m W W' hL h => h.later hL) hA0 (by kernel_rfl) (by kernel_rfl) (by kernel_rfl) (by kernel_rfl) (by kernel_rfl) (by kernel_rfl) rfl (by decide) rfl ⟨?_, ?_, ?_, ?_, ?_, ?_, ?_, ?_, ?_, ?_, ?_, trivial⟩ ?_
  · exact chStep_val rfl (fun ac W m he hA => stepOk_want rfl (op_fieldAddr rfl (he.keep (.tmp 1) (by kernel_rfl)) (fieldSd 6 168 (by decide)) rfl))
  · exact chStep_val rfl (fun ac W m he hA => stepOk_want rfl (op_load rfl (show ac.eval (.tmp 28) = .pointer (some ⟨g1, offH 5, none⟩) from he.val 0 28 (by kernel_rfl) rfl rfl) (loadSaidH hs hA.src 5 (by decide)) rfl))
  · exact chStep_val rfl (fun ac W m he hA => stepOk_want rfl (op_fieldAddr rfl (he.keep (.tmp 1) (by kernel_rfl)) (fieldSd 4 104 (by decide)) rfl))
  · exact chStep_val rfl (fun ac W m he hA => stepOk_want rfl (op_load rfl (show ac.eval (.tmp 30) = .pointer (some ⟨g1, offH 3, none⟩) from he.val 2 30 (by kernel_rfl) rfl rfl) (loadSaidH hs hA.src 3 (by decide)) rfl))
  · exact chStep_val rfl (fun ac W m he hA => stepOk_want rfl (op_fieldAddr rfl (he.keep (.tmp 1) (by kernel_rfl)) (fieldSd 5 136 (by decide)) rfl))
  · exact chStep_val rfl (fun ac W m he hA => stepOk_want rfl (op_load rfl (show ac.eval (.tmp 32) = .pointer (some ⟨g1, offH 4, none⟩) from he.val 4 32 (by kernel_rfl) rfl rfl) (loadSaidH hs hA.src 4 (by decide)) rfl))
  · exact chStep_val rfl (fun ac W m he hA => stepOk_want rfl (op_fieldAddr rfl (he.keep (.tmp 3) (by kernel_rfl)) (fieldSd 6 168 (by decide)) rfl))
  · refine chStep_put (k := 0) rfl (.inl rfl) (fun ac W he hA => ⟨rfl, ?_⟩)
    obtain ⟨W', hr, hA'⟩ := na_h hA hs 5 (by decide) rfl
    exact op_storeK rfl (show ac.eval (.tmp 34) = .pointer (some ⟨g3, offH 5, none⟩) from he.val 6 34 (by kernel_rfl) rfl rfl) (show ac.eval (.tmp 29) = .agg (hC (s.h 5)) from he.val 1 29 (by kernel_rfl) rfl rfl) hr ⟨undef, rfl, hA'⟩
  · exact chStep_val rfl (fun ac W m he hA => stepOk_want rfl (op_fieldAddr rfl (he.keep (.tmp 3) (by kernel_rfl)) (fieldSd 4 104 (by decide)) rfl))
  · refine chStep_put (k := 1) rfl (.inr (by kernel_rfl)) (fun ac W he hA => ⟨rfl, ?_⟩)
    obtain ⟨W', hr, hA'⟩ := na_h hA hs 3 (by decide) rfl
    exact op_storeK rfl (show ac.eval (.tmp 35) = .pointer (some ⟨g3, offH 3, none⟩) from he.val 8 35 (by kernel_rfl) rfl rfl) (show ac.eval (.tmp 31) = .agg (hC (s.h 3)) from he.val 3 31 (by kernel_rfl) rfl rfl) hr ⟨undef, rfl, hA'⟩
  · exact chStep_val rfl (fun ac W m he hA => stepOk_want rfl (op_fieldAddr rfl (he.keep (.tmp 3) (by kernel_rfl)) (fieldSd 5 136 (by decide)) rfl))
  intro xs W hA hx hk hgt
  have hA : NA w g1 g2 g3 s (nmAt s 2) 2 W := hA
  obtain ⟨W', hr, hA'⟩ := na_h hA hs 4 (by decide) rfl
  refine last_store rfl rfl ((hgt 10 36 (by decide) (by kernel_rfl)).trans (show xs 10 = .pointer (some ⟨g3, offH 4, none⟩) from hx 10 (by decide) rfl)) ((hgt 5 33 (by decide) (by kernel_rfl)).trans (show xs 5 = .agg (hC (s.h 4)) from hx 5 (by decide) rfl)) hr ?_
  clear hr hA hA0 hx hk hgt
  simp only [initL, lastL, putL, Nat.reduceAdd, Act.put, List.setIfInBounds_toArray, List.set_cons_succ, List.set_cons_zero]
  have hld := loadSaid hA'.wf hA'.row
  obtain ⟨W2, hst, hr2, hgw⟩ := storeSaid (blank_wf 0) hA'.wf hA'.res
  have hb9 : Below g1 w W2 := hA'.low.grown hgw (Nat.le_of_lt hA'.src.lt) (fun j e => by injection e with e; have := hA'.lt; omega)
  have hz9 := saidC_size hA'.wf
  clear hA'
  go_wp2_with (first
    | (guard_target =~ wpList _ _ _ (_ :: _) _ _; refine wpList_load rfl 29 (.tmp 3) rfl (.pointer (some ⟨g3, 0, none⟩)) rfl hld ?_)
    | (guard_target =~ wpList _ _ _ (_ :: _) _ _; refine wpList_store rfl 29 (.tmp 2) (.tmp 126) rfl (.pointer (some ⟨g2, 0, none⟩)) _ rfl rfl hst ?_)
    | fail)
  exact bodyPost_ret (results_cell1 rfl _ _ g2 29 _ _ rfl hr2 Tryz.underlying29 rfl (by rw [hz9]; exact infoSaid)) rfl ⟨rfl, by have h9 := HG1.out; subst h9; exact hb9⟩
set_option maxRecDepth 100000 in
set_option maxHeartbeats 2000000 in
theorem named3 (s : Said) (hs : s.wf) (hk : s.kind = 3) (w : World) : Calls Tryz.prog 28 #[.agg (saidC s)] w fun e w' => e = .returned (.agg (saidC (nmd s 3))) ∧ Later w w' := by
  have k1 := Row.new w 29 (saidC s)
  have hbx := boxSaid hs w
  have hb1 := below_new w (.cells (saidC s) 29)
  go_enter Tryz.func28, Tryz.ntmps28
  go_upto_region 1 with (first
    | (with_reducible refine wpList_alloc rfl 29 rfl (allocSaid _) ?_)
    | fail)
  obtain ⟨g1, hg1⟩ : ∃ q, q = w.heap.size := ⟨_, rfl⟩
  have k1' := k1.alloc (.cells (saidC (Ms.blank 0)) 29)
  have k2 := Row.new (w.alloc (.cells (saidC s) 29)) 29 (saidC (Ms.blank 0))
  have hb2 := hb1.alloc hb1.size (.cells (saidC (Ms.blank 0)) 29)
  obtain ⟨g2, hg2⟩ : ∃ q, q = (w.alloc (.cells (saidC s) 29)).heap.size := ⟨_, rfl⟩
  have hg12 : g1 < g2 := by rw [hg1, hg2]; exact k1.lt
  clear hbx k1 hb1
  rw [← hg2] at k2
  rw [← hg1] at k1' hb2
  first | rw [← hg2] | skip
  rw [← hg1]
  generalize (w.alloc (.cells (saidC s) 29)).alloc (.cells (saidC (Ms.blank 0)) 29) = w2 at *
  have HG1 := Lib.hid hg1
  clear hg1 hg2
  obtain ⟨w3, hst, k3, hL3⟩ := newBlank w2 s.kind
  have c0 : w2.cell? ⟨g1, 0, none⟩ = some (.int .i64 s.kind) := (k1'.cell 0).trans (saidC_kind hs)
  have k23 := k2.lt
  rw [hk] at hst k3 c0
  have k13 := k1'.later hL3
  have hA0 : NA w g1 g2 w2.heap.size s (nmAt s (3)) 0 w3 := ⟨hb2.trans (hL3.below.mono (Nat.le_of_lt k1'.lt)), k13, k2.later hL3, blank_wf _, k3, hg12, k23⟩
  clear k1' hb2 hg12 k23 hL3 k3 k2
  go_upto_region 2 with (first
    | (guard_target =~ wpList _ _ _ (_ :: _) _ _; refine wpList_build rfl 29 _ rfl #[(0, .int .i64 (3))] (by simp only [List.map_toArray, List.map_cons, List.map_nil]; rfl) (buildSaidK _ _) ?_)
    | (with_reducible refine wpList_alloc rfl 29 rfl (allocSaid _) ?_)
    | (guard_target =~ wpList _ _ _ (_ :: _) _ _; refine wpList_store rfl 29 (.tmp 3) (.tmp 6) rfl (.pointer (some ⟨w2.heap.size, 0, none⟩)) (.agg (saidC (Ms.blank (3)))) rfl rfl hst ?_)
    | fail)
  clear hst c0
  obtain ⟨g3, hg3⟩ : ∃ q, q = w2.heap.size := ⟨_, rfl⟩
  rw [← hg3] at hA0 ⊢
  clear hg3
  have c0 : w3.cell? ⟨g1, 0, none⟩ = some (.int .i64 (3)) := (k13.cell 0).trans ((saidC_kind hs).trans (by rw [hk]))
  clear k13
  go_upto_region 8 with fail
  refine (wpIn_wide (n := 0)).1 ?_
  refine wpIn_region_chain wide_wide [.pointer (some ⟨g1, offH 6, none⟩), .agg (hC (s.h 6)), .pointer (some ⟨g1, offN 9, none⟩), .int .i64 (s.n 9), .pointer (some ⟨g1, offH 7, none⟩), .agg (hC (s.h 7)), .pointer (some ⟨g3, offH 6, none⟩), undef, .pointer (some ⟨g3, offN 9, none⟩), undef, .pointer (some ⟨g3, offH 7, none⟩)] [7, 9] (NA w g1 g2 g3 s (nmAt s 3)) (fun m W W' hL h => h.later hL) hA0 (by kernel_rfl) (by kernel_rfl) (by kernel_rfl) (by kernel_rfl) (by kernel_rfl) (by kernel_rfl) rfl (by decide) rfl ⟨?_, ?_, ?_, ?_, ?_, ?_, ?_, ?_, ?_, ?_, ?_, trivial⟩ ?_
  · exact chStep_val rfl (fun ac W m he hA => stepOk_want rfl (op_fieldAddr rfl (he.keep (.tmp 1) (by kernel_rfl)) (fieldSd 7 200 (by decide)) rfl))
  · exact chStep_val rfl (fun ac W m he hA => stepOk_want rfl (op_load rfl (show ac.eval (.tmp 39) = .pointer (some ⟨g1, offH 6, none⟩) from he.val 0 39 (by kernel_rfl) rfl rfl) (loadSaidH hs hA.src 6 (by decide)) rfl))
  · exact chStep_val rfl (fun ac W m he hA => stepOk_want rfl (op_fieldAddr rfl (he.keep (.tmp 1) (by kernel_rfl)) (fieldSd 12 298 (by decide)) rfl))
  · exact chStep_val rfl (fun ac W m he hA => stepOk_want rfl (op_load rfl (show ac.eval (.tmp 41) = .pointer (some ⟨g1, offN 9, none⟩) from he.val 2 41 (by kernel_rfl) rfl rfl) (loadSaidN hs hA.src 9 (by decide)) rfl))
  · exact chStep_val rfl (fun ac W m he hA => stepOk_want rfl (op_fieldAddr rfl (he.keep (.tmp 1) (by kernel_rfl)) (fieldSd 8 232 (by decide)) rfl))
  · exact chStep_val rfl (fun ac W m he hA => stepOk_want rfl (op_load rfl (show ac.eval (.tmp 43) = .pointer (some ⟨g1, offH 7, none⟩) from he.val 4 43 (by kernel_rfl) rfl rfl) (loadSaidH hs hA.src 7 (by decide)) rfl))
  · exact chStep_val rfl (fun ac W m he hA => stepOk_want rfl (op_fieldAddr rfl (he.keep (.tmp 3) (by kernel_rfl)) (fieldSd 7 200 (by decide)) rfl))
  · refine chStep_put (k := 0) rfl (.inl rfl) (fun ac W he hA => ⟨rfl, ?_⟩)
    obtain ⟨W', hr, hA'⟩ := na_h hA hs 6 (by decide) rfl
    exact op_storeK rfl (show ac.eval (.tmp 45) = .pointer (some ⟨g3, offH 6, none⟩) from he.val 6 45 (by kernel_rfl) rfl rfl) (show ac.eval (.tmp 40) = .agg (hC (s.h 6)) from he.val 1 40 (by kernel_rfl) rfl rfl) hr ⟨undef, rfl, hA'⟩
  · exact chStep_val rfl (fun ac W m he hA => stepOk_want rfl (op_fieldAddr rfl (he.keep (.tmp 3) (by kernel_rfl)) (fieldSd 12 298 (by decide)) rfl))
  · refine chStep_put (k := 1) rfl (.inr (by kernel_rfl)) (fun ac W he hA => ⟨rfl, ?_⟩)
    obtain ⟨W', hr, hA'⟩ := na_n hA 9 (by decide) rfl
    exact op_storeK rfl (show ac.eval (.tmp 46) = .pointer (some ⟨g3, offN 9, none⟩) from he.val 8 46 (by kernel_rfl) rfl rfl) (show ac.eval (.tmp 42) = .int .i64 (s.n 9) from he.val 3 42 (by kernel_rfl) rfl rfl) hr ⟨undef, rfl, hA'⟩
  · exact chStep_val rfl (fun ac W m he hA => stepOk_want rfl (op_fieldAddr rfl (he.keep (.tmp 3) (by kernel_rfl)) (fieldSd 8 232 (by decide)) rfl))
  intro xs W hA hx hk hgt
  have hA : NA w g1 g2 g3 s (nmAt s 3) 2 W := hA
  obtain ⟨W', hr, hA'⟩ := na_h hA hs 7 (by decide) rfl
  refine last_store rfl rfl ((hgt 10 47 (by decide) (by kernel_rfl)).trans (show xs 10 = .pointer (some ⟨g3, offH 7, none⟩) from hx 10 (by decide) rfl)) ((hgt 5 44 (by decide) (by kernel_rfl)).trans (show xs 5 = .agg (hC (s.h 7)) from hx 5 (by decide) rfl)) hr ?_
  clear hr hA hA0 hx hk hgt
  simp only [initL, lastL, putL, Nat.reduceAdd, Act.put, List.setIfInBounds_toArray, List.set_cons_succ, List.set_cons_zero]
  have hld := loadSaid hA'.wf hA'.row
  obtain ⟨W2, hst, hr2, hgw⟩ := storeSaid (blank_wf 0) hA'.wf hA'.res
  have hb9 : Below g1 w W2 := hA'.low.grown hgw (Nat.le_of_lt hA'.src.lt) (fun j e => by injection e with e; have := hA'.lt; omega)
  have hz9 := saidC_size hA'.wf
  clear hA'
  go_wp2_with (first
    | (guard_target =~ wpList _ _ _ (_ :: _) _ _; refine wpList_load rfl 29 (.tmp 3) rfl (.pointer (some ⟨g3, 0, none⟩)) rfl hld ?_)
    | (guard_target =~ wpList _ _ _ (_ :: _) _ _; refine wpList_store rfl 29 (.tmp 2) (.tmp 126) rfl (.pointer (some ⟨g2, 0, none⟩)) _ rfl rfl hst ?_)
    | fail)
  exact bodyPost_ret (results_cell1 rfl _ _ g2 29 _ _ rfl hr2 Tryz.underlying29 rfl (by rw [hz9]; exact infoSaid)) rfl ⟨rfl, by have h9 := HG1.out; subst h9; exact hb9⟩
set_option maxRecDepth 100000 in
set_option maxHeartbeats 2000000 in
theorem named6 (s : Said) (hs : s.wf) (hk : s.kind = 6) (w : World) : Calls Tryz.prog 28 #[.agg (saidC s)] w fun e w' => e = .returned (.agg (saidC (nmd s 6))) ∧ Later w w' := by
  have k1 := Row.new w 29 (saidC s)
  have hbx := boxSaid hs w
  have hb1 := below_new w (.cells (saidC s) 29)
  go_enter Tryz.func28, Tryz.ntmps28
  go_upto_region 1 with (first
    | (with_reducible refine wpList_alloc rfl 29 rfl (allocSaid _) ?_)
    | fail)
  obtain ⟨g1, hg1⟩ : ∃ q, q = w.heap.size := ⟨_, rfl⟩
  have k1' := k1.alloc (.cells (saidC (Ms.blank 0)) 29)
  have k2 := Row.new (w.alloc (.cells (saidC s) 29)) 29 (saidC (Ms.blank 0))
  have hb2 := hb1.alloc hb1.size (.cells (saidC (Ms.blank 0)) 29)
  obtain ⟨g2, hg2⟩ : ∃ q, q = (w.alloc (.cells (saidC s) 29)).heap.size := ⟨_, rfl⟩
  have hg12 : g1 < g2 := by rw [hg1, hg2]; exact k1.lt
  clear hbx k1 hb1
  rw [← hg2] at k2
  rw [← hg1] at k1' hb2
  first | rw [← hg2] | skip
  rw [← hg1]
  generalize (w.alloc (.cells (saidC s) 29)).alloc (.cells (saidC (Ms.blank 0)) 29) = w2 at *
  have HG1 := Lib.hid hg1
  clear hg1 hg2
  obtain ⟨w3, hst, k3, hL3⟩ := newBlank w2 s.kind
  have c0 : w2.cell? ⟨g1, 0, none⟩ = some (.int .i64 s.kind) := (k1'.cell 0).trans (saidC_kind hs)
  have k23 := k2.lt
  rw [hk] at hst k3 c0
  have k13 := k1'.later hL3
  have hA0 : NA w g1 g2 w2.heap.size s (nmAt s (6)) 0 w3 := ⟨hb2.trans (hL3.below.mono (Nat.le_of_lt k1'.lt)), k13, k2.later hL3, blank_wf _, k3, hg12, k23⟩
  clear k1' hb2 hg12 k23 hL3 k3 k2
  go_upto_region 2 with (first
    | (guard_target =~ wpList _ _ _ (_ :: _) _ _; refine wpList_build rfl 29 _ rfl #[(0, .int .i64 (6))] (by simp only [List.map_toArray, List.map_cons, List.map_nil]; rfl) (buildSaidK _ _) ?_)
    | (with_reducible refine wpList_alloc rfl 29 rfl (allocSaid _) ?_)
    | (guard_target =~ wpList _ _ _ (_ :: _) _ _; refine wpList_store rfl 29 (.tmp 3) (.tmp 6) rfl (.pointer (some ⟨w2.heap.size, 0, none⟩)) (.agg (saidC (Ms.blank (6)))) rfl rfl hst ?_)
    | fail)
  clear hst c0
  obtain ⟨g3, hg3⟩ : ∃ q, q = w2.heap.size := ⟨_, rfl⟩
  rw [← hg3] at hA0 ⊢
  clear hg3
  have c0 : w3.cell? ⟨g1, 0, none⟩ = some (.int .i64 (6)) := (k13.cell 0).trans ((saidC_kind hs).trans (by rw [hk]))
  clear k13
  go_upto_region 12 with fail
  refine (wpIn_wide (n := 0)).1 ?_
  refine wpIn_region_chain wide_wide [.pointer (some ⟨g1, offN 7, none⟩), .int .i64 (s.n 7), .pointer (some ⟨g1, offN 6, none⟩), .int .i64 (s.n 6), .pointer (some ⟨g1, offH 6, none⟩), .agg (hC (s.h 6)), .pointer (some ⟨g1, offN 10, none⟩), .int .i64 (s.n 10), .pointer (some ⟨g1, 301, none⟩), .string ⟨s.route.toArray⟩, .pointer (some ⟨g3, offN 7, none⟩), undef, .pointer (some ⟨g3, offN 6, none⟩), undef, .pointer (some ⟨g3, offH 6, none⟩), undef, .pointer (some ⟨g3, offN 10, none⟩), undef, .pointer (some ⟨g3, 301, none⟩)] [11, 13, 15, 17] (NA w g1 g2 g3 s (nmAt s 6)) (fun m W W' hL h => h.later hL) hA0 (by kernel_rfl) (by kernel_rfl) (by kernel_rfl) (by kernel_rfl) (by kernel_rfl) (by kernel_rfl) rfl (by decide) rfl ⟨?_, ?_, ?_, ?_, ?_, ?_, ?_, ?_, ?_, ?_, ?_, ?_, ?_, ?_, ?_, ?_, ?_, ?_, ?_, trivial⟩ ?_
  · exact chStep_val rfl (fun ac W m he hA => stepOk_want rfl (op_fieldAddr rfl (he.keep (.tmp 1) (by kernel_rfl)) (fieldSd 10 296 (by decide)) rfl))
  · exact chStep_val rfl (fun ac W m he hA => stepOk_want rfl (op_load rfl (show ac.eval (.tmp 55) = .pointer (some ⟨g1, offN 7, none⟩) from he.val 0 55 (by kernel_rfl) rfl rfl) (loadSaidN hs hA.src 7 (by decide)) rfl))
  · exact chStep_val rfl (fun ac W m he hA => stepOk_want rfl (op_fieldAddr rfl (he.keep (.tmp 1) (by kernel_rfl)) (fieldSd 3 103 (by decide)) rfl))
  · exact chStep_val rfl (fun ac W m he hA => stepOk_want rfl (op_load rfl (show ac.eval (.tmp 57) = .pointer (some ⟨g1, offN 6, none⟩) from he.val 2 57 (by kernel_rfl) rfl rfl) (loadSaidN hs hA.src 6 (by decide)) rfl))
  · exact chStep_val rfl (fun ac W m he hA => stepOk_want rfl (op_fieldAddr rfl (he.keep (.tmp 1) (by kernel_rfl)) (fieldSd 7 200 (by decide)) rfl))
  · exact chStep_val rfl (fun ac W m he hA => stepOk_want rfl (op_load rfl (show ac.eval (.tmp 59) = .pointer (some ⟨g1, offH 6, none⟩) from he.val 4 59 (by kernel_rfl) rfl rfl) (loadSaidH hs hA.src 6 (by decide)) rfl))
  · exact chStep_val rfl (fun ac W m he hA => stepOk_want rfl (op_fieldAddr rfl (he.keep (.tmp 1) (by kernel_rfl)) (fieldSd 13 299 (by decide)) rfl))
  · exact chStep_val rfl (fun ac W m he hA => stepOk_want rfl (op_load rfl (show ac.eval (.tmp 61) = .pointer (some ⟨g1, offN 10, none⟩) from he.val 6 61 (by kernel_rfl) rfl rfl) (loadSaidN hs hA.src 10 (by decide)) rfl))
  · exact chStep_val rfl (fun ac W m he hA => stepOk_want rfl (op_fieldAddr rfl (he.keep (.tmp 1) (by kernel_rfl)) (fieldSd 15 301 (by decide)) rfl))
  · exact chStep_val rfl (fun ac W m he hA => stepOk_want rfl (op_load rfl (show ac.eval (.tmp 63) = .pointer (some ⟨g1, 301, none⟩) from he.val 8 63 (by kernel_rfl) rfl rfl) (loadSaidR hs hA.src) rfl))
  · exact chStep_val rfl (fun ac W m he hA => stepOk_want rfl (op_fieldAddr rfl (he.keep (.tmp 3) (by kernel_rfl)) (fieldSd 10 296 (by decide)) rfl))
  · refine chStep_put (k := 0) rfl (.inl rfl) (fun ac W he hA => ⟨rfl, ?_⟩)
    obtain ⟨W', hr, hA'⟩ := na_n hA 7 (by decide) rfl
    exact op_storeK rfl (show ac.eval (.tmp 65) = .pointer (some ⟨g3, offN 7, none⟩) from he.val 10 65 (by kernel_rfl) rfl rfl) (show ac.eval (.tmp 56) = .int .i64 (s.n 7) from he.val 1 56 (by kernel_rfl) rfl rfl) hr ⟨undef, rfl, hA'⟩
  · exact chStep_val rfl (fun ac W m he hA => stepOk_want rfl (op_fieldAddr rfl (he.keep (.tmp 3) (by kernel_rfl)) (fieldSd 3 103 (by decide)) rfl))
  · refine chStep_put (k := 1) rfl (.inr (by kernel_rfl)) (fun ac W he hA => ⟨rfl, ?_⟩)
    obtain ⟨W', hr, hA'⟩ := na_n hA 6 (by decide) rfl
    exact op_storeK rfl (show ac.eval (.tmp 66) = .pointer (some ⟨g3, offN 6, none⟩) from he.val 12 66 (by kernel_rfl) rfl rfl) (show ac.eval (.tmp 58) = .int .i64 (s.n 6) from he.val 3 58 (by kernel_rfl) rfl rfl) hr ⟨undef, rfl, hA'⟩
  · exact chStep_val rfl (fun ac W m he hA => stepOk_want rfl (op_fieldAddr rfl (he.keep (.tmp 3) (by kernel_rfl)) (fieldSd 7 200 (by decide)) rfl))
  · refine chStep_put (k := 2) rfl (.inr (by kernel_rfl)) (fun ac W he hA => ⟨rfl, ?_⟩)
    obtain ⟨W', hr, hA'⟩ := na_h hA hs 6 (by decide) rfl
    exact op_storeK rfl (show ac.eval (.tmp 67) = .pointer (some ⟨g3, offH 6, none⟩) from he.val 14 67 (by kernel_rfl) rfl rfl) (show ac.eval (.tmp 60) = .agg (hC (s.h 6)) from he.val 5 60 (by kernel_rfl) rfl rfl) hr ⟨undef, rfl, hA'⟩
  · exact chStep_val rfl (fun ac W m he hA => stepOk_want rfl (op_fieldAddr rfl (he.keep (.tmp 3) (by kernel_rfl)) (fieldSd 13 299 (by decide)) rfl))
  · refine chStep_put (k := 3) rfl (.inr (by kernel_rfl)) (fun ac W he hA => ⟨rfl, ?_⟩)
    obtain ⟨W', hr, hA'⟩ := na_n hA 10 (by decide) rfl
    exact op_storeK rfl (show ac.eval (.tmp 68) = .pointer (some ⟨g3, offN 10, none⟩) from he.val 16 68 (by kernel_rfl) rfl rfl) (show ac.eval (.tmp 62) = .int .i64 (s.n 10) from he.val 7 62 (by kernel_rfl) rfl rfl) hr ⟨undef, rfl, hA'⟩
  · exact chStep_val rfl (fun ac W m he hA => stepOk_want rfl (op_fieldAddr rfl (he.keep (.tmp 3) (by kernel_rfl)) (fieldSd 15 301 (by decide)) rfl))
  intro xs W hA hx hk hgt
  have hA : NA w g1 g2 g3 s (nmAt s 6) 4 W := hA
  obtain ⟨W', hr, hA'⟩ := na_r hA rfl
  refine last_store rfl rfl ((hgt 18 69 (by decide) (by kernel_rfl)).trans (show xs 18 = .pointer (some ⟨g3, 301, none⟩) from hx 18 (by decide) rfl)) ((hgt 9 64 (by decide) (by kernel_rfl)).trans (show xs 9 = .string ⟨s.route.toArray⟩ from hx 9 (by decide) rfl)) hr ?_
  clear hr hA hA0 hx hk hgt
  simp only [initL, lastL, putL, Nat.reduceAdd, Act.put, List.setIfInBounds_toArray, List.set_cons_succ, List.set_cons_zero]
  have hld := loadSaid hA'.wf hA'.row
  obtain ⟨W2, hst, hr2, hgw⟩ := storeSaid (blank_wf 0) hA'.wf hA'.res
  have hb9 : Below g1 w W2 := hA'.low.grown hgw (Nat.le_of_lt hA'.src.lt) (fun j e => by injection e with e; have := hA'.lt; omega)
  have hz9 := saidC_size hA'.wf
  clear hA'
  go_wp2_with (first
    | (guard_target =~ wpList _ _ _ (_ :: _) _ _; refine wpList_load rfl 29 (.tmp 3) rfl (.pointer (some ⟨g3, 0, none⟩)) rfl hld ?_)
    | (guard_target =~ wpList _ _ _ (_ :: _) _ _; refine wpList_store rfl 29 (.tmp 2) (.tmp 126) rfl (.pointer (some ⟨g2, 0, none⟩)) _ rfl rfl hst ?_)
    | fail)
  exact bodyPost_ret (results_cell1 rfl _ _ g2 29 _ _ rfl hr2 Tryz.underlying29 rfl (by rw [hz9]; exact infoSaid)) rfl ⟨rfl, by have h9 := HG1.out; subst h9; exact hb9⟩
set_option maxRecDepth 100000 in
set_option maxHeartbeats 2000000 in
theorem named7 (s : Said) (hs : s.wf) (hk : s.kind = 7) (w : World) : Calls Tryz.prog 28 #[.agg (saidC s)] w fun e w' => e = .returned (.agg (saidC (nmd s 7))) ∧ Later w w' := by
  have k1 := Row.new w 29 (saidC s)
  have hbx := boxSaid hs w
  have hb1 := below_new w (.cells (saidC s) 29)
  go_enter Tryz.func28, Tryz.ntmps28
  go_upto_region 1 with (first
    | (with_reducible refine wpList_alloc rfl 29 rfl (allocSaid _) ?_)
    | fail)
  obtain ⟨g1, hg1⟩ : ∃ q, q = w.heap.size := ⟨_, rfl⟩
  have k1' := k1.alloc (.cells (saidC (Ms.blank 0)) 29)
  have k2 := Row.new (w.alloc (.cells (saidC s) 29)) 29 (saidC (Ms.blank 0))
  have hb2 := hb1.alloc hb1.size (.cells (saidC (Ms.blank 0)) 29)
  obtain ⟨g2, hg2⟩ : ∃ q, q = (w.alloc (.cells (saidC s) 29)).heap.size := ⟨_, rfl⟩
  have hg12 : g1 < g2 := by rw [hg1, hg2]; exact k1.lt
  clear hbx k1 hb1
  rw [← hg2] at k2
  rw [← hg1] at k1' hb2
  first | rw [← hg2] | skip
  rw [← hg1]
  generalize (w.alloc (.cells (saidC s) 29)).alloc (.cells (saidC (Ms.blank 0)) 29) = w2 at *
  have HG1 := Lib.hid hg1
  clear hg1 hg2
  obtain ⟨w3, hst, k3, hL3⟩ := newBlank w2 s.kind
  have c0 : w2.cell? ⟨g1, 0, none⟩ = some (.int .i64 s.kind) := (k1'.cell 0).trans (saidC_kind hs)
  have k23 := k2.lt
  rw [hk] at hst k3 c0
  have k13 := k1'.later hL3
  have hA0 : NA w g1 g2 w2.heap.size s (nmAt s (7)) 0 w3 := ⟨hb2.trans (hL3.below.mono (Nat.le_of_lt k1'.lt)), k13, k2.later hL3, blank_wf _, k3, hg12, k23⟩
  clear k1' hb2 hg12 k23 hL3 k3 k2
  go_upto_region 2 with (first
    | (guard_target =~ wpList _ _ _ (_ :: _) _ _; refine wpList_build rfl 29 _ rfl #[(0, .int .i64 (7))] (by simp only [List.map_toArray, List.map_cons, List.map_nil]; rfl) (buildSaidK _ _) ?_)
    | (with_reducible refine wpList_alloc rfl 29 rfl (allocSaid _) ?_)
    | (guard_target =~ wpList _ _ _ (_ :: _) _ _; refine wpList_store rfl 29 (.tmp 3) (.tmp 6) rfl (.pointer (some ⟨w2.heap.size, 0, none⟩)) (.agg (saidC (Ms.blank (7)))) rfl rfl hst ?_)
    | fail)
  clear hst c0
  obtain ⟨g3, hg3⟩ : ∃ q, q = w2.heap.size := ⟨_, rfl⟩
  rw [← hg3] at hA0 ⊢
  clear hg3
  have c0 : w3.cell? ⟨g1, 0, none⟩ = some (.int .i64 (7)) := (k13.cell 0).trans ((saidC_kind hs).trans (by rw [hk]))
  clear k13
  go_upto_region 14 with fail
  refine (wpIn_wide (n := 0)).1 ?_
  refine wpIn_region_chain wide_wide [.pointer (some ⟨g1, offN 7, none⟩), .int .i64 (s.n 7), .pointer (some ⟨g1, offH 8, none⟩), .agg (hC (s.h 8)), .pointer (some ⟨g3, offN 7, none⟩), undef, .pointer (some ⟨g3, offH 8, none⟩)] [5] (NA w g1 g2 g3 s (nmAt s 7)) (fun m W W' hL h => h.later hL) hA0 (by kernel_rfl) (by kernel_rfl) (by kernel_rfl) (by kernel_rfl) (by kernel_rfl) (by kernel_rfl) rfl (by decide) rfl ⟨?_, ?_, ?_, ?_, ?_, ?_, ?_, trivial⟩ ?_
  · exact chStep_val rfl (fun ac W m he hA => stepOk_want rfl (op_fieldAddr rfl (he.keep (.tmp 1) (by kernel_rfl)) (fieldSd 10 296 (by decide)) rfl))
  · exact chStep_val rfl (fun ac W m he hA => stepOk_want rfl (op_load rfl (show ac.eval (.tmp 72) = .pointer (some ⟨g1, offN 7, none⟩) from he.val 0 72 (by kernel_rfl) rfl rfl) (loadSaidN hs hA.src 7 (by decide)) rfl))
  · exact chStep_val rfl (fun ac W m he hA => stepOk_want rfl (op_fieldAddr rfl (he.keep (.tmp 1) (by kernel_rfl)) (fieldSd 9 264 (by decide)) rfl))
  · exact chStep_val rfl (fun ac W m he hA => stepOk_want rfl (op_load rfl (show ac.eval (.tmp 74) = .pointer (some ⟨g1, offH 8, none⟩) from he.val 2 74 (by kernel_rfl) rfl rfl) (loadSaidH hs hA.src 8 (by decide)) rfl))
  · exact chStep_val rfl (fun ac W m he hA => stepOk_want rfl (op_fieldAddr rfl (he.keep (.tmp 3) (by kernel_rfl)) (fieldSd 10 296 (by decide)) rfl))
  · refine chStep_put (k := 0) rfl (.inl rfl) (fun ac W he hA => ⟨rfl, ?_⟩)
    obtain ⟨W', hr, hA'⟩ := na_n hA 7 (by decide) rfl
    exact op_storeK rfl (show ac.eval (.tmp 76) = .pointer (some ⟨g3, offN 7, none⟩) from he.val 4 76 (by kernel_rfl) rfl rfl) (show ac.eval (.tmp 73) = .int .i64 (s.n 7) from he.val 1 73 (by kernel_rfl) rfl rfl) hr ⟨undef, rfl, hA'⟩
  · exact chStep_val rfl (fun ac W m he hA => stepOk_want rfl (op_fieldAddr rfl (he.keep (.tmp 3) (by kernel_rfl)) (fieldSd 9 264 (by decide)) rfl))
  intro xs W hA hx hk hgt
  have hA : NA w g1 g2 g3 s (nmAt s 7) 1 W := hA
  obtain ⟨W', hr, hA'⟩ := na_h hA hs 8 (by decide) rfl
  refine last_store rfl rfl ((hgt 6 77 (by decide) (by kernel_rfl)).trans (show xs 6 = .pointer (some ⟨g3, offH 8, none⟩) from hx 6 (by decide) rfl)) ((hgt 3 75 (by decide) (by kernel_rfl)).trans (show xs 3 = .agg (hC (s.h 8)) from hx 3 (by decide) rfl)) hr ?_
  clear hr hA hA0 hx hk hgt
  simp only [initL, lastL, putL, Nat.reduceAdd, Act.put, List.setIfInBounds_toArray, List.set_cons_succ, List.set_cons_zero]
  have hld := loadSaid hA'.wf hA'.row
  obtain ⟨W2, hst, hr2, hgw⟩ := storeSaid (blank_wf 0) hA'.wf hA'.res
  have hb9 : Below g1 w W2 := hA'.low.grown hgw (Nat.le_of_lt hA'.src.lt) (fun j e => by injection e with e; have := hA'.lt; omega)
  have hz9 := saidC_size hA'.wf
  clear hA'
  go_wp2_with (first
    | (guard_target =~ wpList _ _ _ (_ :: _) _ _; refine wpList_load rfl 29 (.tmp 3) rfl (.pointer (some ⟨g3, 0, none⟩)) rfl hld ?_)
    | (guard_target =~ wpList _ _ _ (_ :: _) _ _; refine wpList_store rfl 29 (.tmp 2) (.tmp 126) rfl (.pointer (some ⟨g2, 0, none⟩)) _ rfl rfl hst ?_)
    | fail)
  exact bodyPost_ret (results_cell1 rfl _ _ g2 29 _ _ rfl hr2 Tryz.underlying29 rfl (by rw [hz9]; exact infoSaid)) rfl ⟨rfl, by have h9 := HG1.out; subst h9; exact hb9⟩
set_option maxRecDepth 100000 in
set_option maxHeartbeats 2000000 in
theorem named8 (s : Said) (hs : s.wf) (hk : s.kind = 8) (w : World) : Calls Tryz.prog 28 #[.agg (saidC s)] w fun e w' => e = .returned (.agg (saidC (nmd s 8))) ∧ Later w w' := by
  have k1 := Row.new w 29 (saidC s)
  have hbx := boxSaid hs w
  have hb1 := below_new w (.cells (saidC s) 29)
  go_enter Tryz.func28, Tryz.ntmps28
  go_upto_region 1 with (first
    | (with_reducible refine wpList_alloc rfl 29 rfl (allocSaid _) ?_)
    | fail)
  obtain ⟨g1, hg1⟩ : ∃ q, q = w.heap.size := ⟨_, rfl⟩
  have k1' := k1.alloc (.cells (saidC (Ms.blank 0)) 29)
  have k2 := Row.new (w.alloc (.cells (saidC s) 29)) 29 (saidC (Ms.blank 0))
  have hb2 := hb1.alloc hb1.size (.cells (saidC (Ms.blank 0)) 29)
  obtain ⟨g2, hg2⟩ : ∃ q, q = (w.alloc (.cells (saidC s) 29)).heap.size := ⟨_, rfl⟩
  have hg12 : g1 < g2 := by rw [hg1, hg2]; exact k1.lt
  clear hbx k1 hb1
  rw [← hg2] at k2
  rw [← hg1] at k1' hb2
  first | rw [← hg2] | skip
  rw [← hg1]
  generalize (w.alloc (.cells (saidC s) 29)).alloc (.cells (saidC (Ms.blank 0)) 29) = w2 at *
  have HG1 := Lib.hid hg1
  clear hg1 hg2
  obtain ⟨w3, hst, k3, hL3⟩ := newBlank w2 s.kind
  have c0 : w2.cell? ⟨g1, 0, none⟩ = some (.int .i64 s.kind) := (k1'.cell 0).trans (saidC_kind hs)
  have k23 := k2.lt
  rw [hk] at hst k3 c0
  have k13 := k1'.later hL3
  have hA0 : NA w g1 g2 w2.heap.size s (nmAt s (8)) 0 w3 := ⟨hb2.trans (hL3.below.mono (Nat.le_of_lt k1'.lt)), k13, k2.later hL3, blank_wf _, k3, hg12, k23⟩
  clear k1' hb2 hg12 k23 hL3 k3 k2
  go_upto_region 2 with (first
    | (guard_target =~ wpList _ _ _ (_ :: _) _ _; refine wpList_build rfl 29 _ rfl #[(0, .int .i64 (8))] (by simp only [List.map_toArray, List.map_cons, List.map_nil]; rfl) (buildSaidK _ _) ?_)
    | (with_reducible refine wpList_alloc rfl 29 rfl (allocSaid _) ?_)
    | (guard_target =~ wpList _ _ _ (_ :: _) _ _; refine wpList_store rfl 29 (.tmp 3) (.tmp 6) rfl (.pointer (some ⟨w2.heap.size, 0, none⟩)) (.agg (saidC (Ms.blank (8)))) rfl rfl hst ?_)
    | fail)
  clear hst c0
  obtain ⟨g3, hg3⟩ : ∃ q, q = w2.heap.size := ⟨_, rfl⟩
  rw [← hg3] at hA0 ⊢
  clear hg3
  have c0 : w3.cell? ⟨g1, 0, none⟩ = some (.int .i64 (8)) := (k13.cell 0).trans ((saidC_kind hs).trans (by rw [hk]))
  clear k13
  go_upto_region 16 with fail
  refine (wpIn_wide (n := 0)).1 ?_
  refine wpIn_region_chain wide_wide [.pointer (some ⟨g1, offN 7, none⟩), .int .i64 (s.n 7), .pointer (some ⟨g1, offN 11, none⟩), .int .i64 (s.n 11), .pointer (some ⟨g3, offN 7, none⟩), undef, .pointer (some ⟨g3, offN 11, none⟩)] [5] (NA w g1 g2 g3 s (nmAt s 8)) (fun m W W' hL h => h.later hL) hA0 (by kernel_rfl) (by kernel_rfl) (by kernel_rfl) (by kernel_rfl) (by kernel_rfl) (by kernel_rfl) rfl (by decide) rfl ⟨?_, ?_, ?_, ?_, ?_, ?_, ?_, trivial⟩ ?_
  · exact chStep_val rfl (fun ac W m he hA => stepOk_want rfl (op_fieldAddr rfl (he.keep (.tmp 1) (by kernel_rfl)) (fieldSd 10 296 (by decide)) rfl))
  · exact chStep_val rfl (fun ac W m he hA => stepOk_want rfl (op_load rfl (show ac.eval (.tmp 80) = .pointer (some ⟨g1, offN 7, none⟩) from he.val 0 80 (by kernel_rfl) rfl rfl) (loadSaidN hs hA.src 7 (by decide)) rfl))
  · exact chStep_val rfl (fun ac W m he hA => stepOk_want rfl (op_fieldAddr rfl (he.keep (.tmp 1) (by kernel_rfl)) (fieldSd 14 300 (by decide)) rfl))
  · exact chStep_val rfl (fun ac W m he hA => stepOk_want rfl (op_load rfl (show ac.eval (.tmp 82) = .pointer (some ⟨g1, offN 11, none⟩) from he.val 2 82 (by kernel_rfl) rfl rfl) (loadSaidN hs hA.src 11 (by decide)) rfl))
  · exact chStep_val rfl (fun ac W m he hA => stepOk_want rfl (op_fieldAddr rfl (he.keep (.tmp 3) (by kernel_rfl)) (fieldSd 10 296 (by decide)) rfl))
  · refine chStep_put (k := 0) rfl (.inl rfl) (fun ac W he hA => ⟨rfl, ?_⟩)
    obtain ⟨W', hr, hA'⟩ := na_n hA 7 (by decide) rfl
    exact op_storeK rfl (show ac.eval (.tmp 84) = .pointer (some ⟨g3, offN 7, none⟩) from he.val 4 84 (by kernel_rfl) rfl rfl) (show ac.eval (.tmp 81) = .int .i64 (s.n 7) from he.val 1 81 (by kernel_rfl) rfl rfl) hr ⟨undef, rfl, hA'⟩
  · exact chStep_val rfl (fun ac W m he hA => stepOk_want rfl (op_fieldAddr rfl (he.keep (.tmp 3) (by kernel_rfl)) (fieldSd 14 300 (by decide)) rfl))
  intro xs W hA hx hk hgt
  have hA : NA w g1 g2 g3 s (nmAt s 8) 1 W := hA
  obtain ⟨W', hr, hA'⟩ := na_n hA 11 (by decide) rfl
  refine last_store rfl rfl ((hgt 6 85 (by decide) (by kernel_rfl)).trans (show xs 6 = .pointer (some ⟨g3, offN 11, none⟩) from hx 6 (by decide) rfl)) ((hgt 3 83 (by decide) (by kernel_rfl)).trans (show xs 3 = .int .i64 (s.n 11) from hx 3 (by decide) rfl)) hr ?_
  clear hr hA hA0 hx hk hgt
  simp only [initL, lastL, putL, Nat.reduceAdd, Act.put, List.setIfInBounds_toArray, List.set_cons_succ, List.set_cons_zero]
  have hld := loadSaid hA'.wf hA'.row
  obtain ⟨W2, hst, hr2, hgw⟩ := storeSaid (blank_wf 0) hA'.wf hA'.res
  have hb9 : Below g1 w W2 := hA'.low.grown hgw (Nat.le_of_lt hA'.src.lt) (fun j e => by injection e with e; have := hA'.lt; omega)
  have hz9 := saidC_size hA'.wf
  clear hA'
  go_wp2_with (first
    | (guard_target =~ wpList _ _ _ (_ :: _) _ _; refine wpList_load rfl 29 (.tmp 3) rfl (.pointer (some ⟨g3, 0, none⟩)) rfl hld ?_)
    | (guard_target =~ wpList _ _ _ (_ :: _) _ _; refine wpList_store rfl 29 (.tmp 2) (.tmp 126) rfl (.pointer (some ⟨g2, 0, none⟩)) _ rfl rfl hst ?_)
    | fail)
  exact bodyPost_ret (results_cell1 rfl _ _ g2 29 _ _ rfl hr2 Tryz.underlying29 rfl (by rw [hz9]; exact infoSaid)) rfl ⟨rfl, by have h9 := HG1.out; subst h9; exact hb9⟩
set_option maxRecDepth 100000 in
set_option maxHeartbeats 2000000 in
theorem named9 (s : Said) (hs : s.wf) (hk : s.kind = 9) (w : World) : Calls Tryz.prog 28 #[.agg (saidC s)] w fun e w' => e = .returned (.agg (saidC (nmd s 9))) ∧ Later w w' := by
  have k1 := Row.new w 29 (saidC s)
  have hbx := boxSaid hs w
  have hb1 := below_new w (.cells (saidC s) 29)
  go_enter Tryz.func28, Tryz.ntmps28
  go_upto_region 1 with (first
    | (with_reducible refine wpList_alloc rfl 29 rfl (allocSaid _) ?_)
    | fail)
  obtain ⟨g1, hg1⟩ : ∃ q, q = w.heap.size := ⟨_, rfl⟩
  have k1' := k1.alloc (.cells (saidC (Ms.blank 0)) 29)
  have k2 := Row.new (w.alloc (.cells (saidC s) 29)) 29 (saidC (Ms.blank 0))
  have hb2 := hb1.alloc hb1.size (.cells (saidC (Ms.blank 0)) 29)
  obtain ⟨g2, hg2⟩ : ∃ q, q = (w.alloc (.cells (saidC s) 29)).heap.size := ⟨_, rfl⟩
  have hg12 : g1 < g2 := by rw [hg1, hg2]; exact k1.lt
  clear hbx k1 hb1
  rw [← hg2] at k2
  rw [← hg1] at k1' hb2
  first | rw [← hg2] | skip
  rw [← hg1]
  generalize (w.alloc (.cells (saidC s) 29)).alloc (.cells (saidC (Ms.blank 0)) 29) = w2 at *
  have HG1 := Lib.hid hg1
  clear hg1 hg2
  obtain ⟨w3, hst, k3, hL3⟩ := newBlank w2 s.kind
  have c0 : w2.cell? ⟨g1, 0, none⟩ = some (.int .i64 s.kind) := (k1'.cell 0).trans (saidC_kind hs)
  have k23 := k2.lt
  rw [hk] at hst k3 c0
  have k13 := k1'.later hL3
  have hA0 : NA w g1 g2 w2.heap.size s (nmAt s (9)) 0 w3 := ⟨hb2.trans (hL3.below.mono (Nat.le_of_lt k1'.lt)), k13, k2.later hL3, blank_wf _, k3, hg12, k23⟩
  clear k1' hb2 hg12 k23 hL3 k3 k2
  go_upto_region 2 with (first
    | (guard_target =~ wpList _ _ _ (_ :: _) _ _; refine wpList_build rfl 29 _ rfl #[(0, .int .i64 (9))] (by simp only [List.map_toArray, List.map_cons, List.map_nil]; rfl) (buildSaidK _ _) ?_)
    | (with_reducible refine wpList_alloc rfl 29 rfl (allocSaid _) ?_)
    | (guard_target =~ wpList _ _ _ (_ :: _) _ _; refine wpList_store rfl 29 (.tmp 3) (.tmp 6) rfl (.pointer (some ⟨w2.heap.size, 0, none⟩)) (.agg (saidC (Ms.blank (9)))) rfl rfl hst ?_)
    | fail)
  clear hst c0
  obtain ⟨g3, hg3⟩ : ∃ q, q = w2.heap.size := ⟨_, rfl⟩
  rw [← hg3] at hA0 ⊢
  clear hg3
  have c0 : w3.cell? ⟨g1, 0, none⟩ = some (.int .i64 (9)) := (k13.cell 0).trans ((saidC_kind hs).trans (by rw [hk]))
  clear k13
  go_upto_region 18 with fail
  refine (wpIn_wide (n := 0)).1 ?_
  refine wpIn_region_chain wide_wide [.pointer (some ⟨g1, offN 8, none⟩), .int .i64 (s.n 8), .pointer (some ⟨g1, offH 7, none⟩), .agg (hC (s.h 7)), .pointer (some ⟨g3, offN 8, none⟩), undef, .pointer (some ⟨g3, offH 7, none⟩)] [5] (NA w g1 g2 g3 s (nmAt s 9)) (fun m W W' hL h => h.later hL) hA0 (by kernel_rfl) (by kernel_rfl) (by kernel_rfl) (by kernel_rfl) (by kernel_rfl) (by kernel_rfl) rfl (by decide) rfl ⟨?_, ?_, ?_, ?_, ?_, ?_, ?_, trivial⟩ ?_
  · exact chStep_val rfl (fun ac W m he hA => stepOk_want rfl (op_fieldAddr rfl (he.keep (.tmp 1) (by kernel_rfl)) (fieldSd 11 297 (by decide)) rfl))
  · exact chStep_val rfl (fun ac W m he hA => stepOk_want rfl (op_load rfl (show ac.eval (.tmp 88) = .pointer (some ⟨g1, offN 8, none⟩) from he.val 0 88 (by kernel_rfl) rfl rfl) (loadSaidN hs hA.src 8 (by decide)) rfl))
  · exact chStep_val rfl (fun ac W m he hA => stepOk_want rfl (op_fieldAddr rfl (he.keep (.tmp 1) (by kernel_rfl)) (fieldSd 8 232 (by decide)) rfl))
  · exact chStep_val rfl (fun ac W m he hA => stepOk_want rfl (op_load rfl (show ac.eval (.tmp 90) = .pointer (some ⟨g1, offH 7, none⟩) from he.val 2 90 (by kernel_rfl) rfl rfl) (loadSaidH hs hA.src 7 (by decide)) rfl))
  · exact chStep_val rfl (fun ac W m he hA => stepOk_want rfl (op_fieldAddr rfl (he.keep (.tmp 3) (by kernel_rfl)) (fieldSd 11 297 (by decide)) rfl))
  · refine chStep_put (k := 0) rfl (.inl rfl) (fun ac W he hA => ⟨rfl, ?_⟩)
    obtain ⟨W', hr, hA'⟩ := na_n hA 8 (by decide) rfl
    exact op_storeK rfl (show ac.eval (.tmp 92) = .pointer (some ⟨g3, offN 8, none⟩) from he.val 4 92 (by kernel_rfl) rfl rfl) (show ac.eval (.tmp 89) = .int .i64 (s.n 8) from he.val 1 89 (by kernel_rfl) rfl rfl) hr ⟨undef, rfl, hA'⟩
  · exact chStep_val rfl (fun ac W m he hA => stepOk_want rfl (op_fieldAddr rfl (he.keep (.tmp 3) (by kernel_rfl)) (fieldSd 8 232 (by decide)) rfl))
  intro xs W hA hx hk hgt
  have hA : NA w g1 g2 g3 s (nmAt s 9) 1 W := hA
  obtain ⟨W', hr, hA'⟩ := na_h hA hs 7 (by decide) rfl
  refine last_store rfl rfl ((hgt 6 93 (by decide) (by kernel_rfl)).trans (show xs 6 = .pointer (some ⟨g3, offH 7, none⟩) from hx 6 (by decide) rfl)) ((hgt 3 91 (by decide) (by kernel_rfl)).trans (show xs 3 = .agg (hC (s.h 7)) from hx 3 (by decide) rfl)) hr ?_
  clear hr hA hA0 hx hk hgt
  simp only [initL, lastL, putL, Nat.reduceAdd, Act.put, List.setIfInBounds_toArray, List.set_cons_succ, List.set_cons_zero]
  have hld := loadSaid hA'.wf hA'.row
  obtain ⟨W2, hst, hr2, hgw⟩ := storeSaid (blank_wf 0) hA'.wf hA'.res
  have hb9 : Below g1 w W2 := hA'.low.grown hgw (Nat.le_of_lt hA'.src.lt) (fun j e => by injection e with e; have := hA'.lt; omega)
  have hz9 := saidC_size hA'.wf
  clear hA'
  go_wp2_with (first
    | (guard_target =~ wpList _ _ _ (_ :: _) _ _; refine wpList_load rfl 29 (.tmp 3) rfl (.pointer (some ⟨g3, 0, none⟩)) rfl hld ?_)
    | (guard_target =~ wpList _ _ _ (_ :: _) _ _; refine wpList_store rfl 29 (.tmp 2) (.tmp 126) rfl (.pointer (some ⟨g2, 0, none⟩)) _ rfl rfl hst ?_)
    | fail)
  exact bodyPost_ret (results_cell1 rfl _ _ g2 29 _ _ rfl hr2 Tryz.underlying29 rfl (by rw [hz9]; exact infoSaid)) rfl ⟨rfl, by have h9 := HG1.out; subst h9; exact hb9⟩
set_option maxRecDepth 100000 in
set_option maxHeartbeats 2000000 in
theorem named10 (s : Said) (hs : s.wf) (hk : s.kind = 10) (w : World) : Calls Tryz.prog 28 #[.agg (saidC s)] w fun e w' => e = .returned (.agg (saidC (nmd s 10))) ∧ Later w w' := by
  have k1 := Row.new w 29 (saidC s)
  have hbx := boxSaid hs w
  have hb1 := below_new w (.cells (saidC s) 29)
  go_enter Tryz.func28, Tryz.ntmps28
  go_upto_region 1 with (first
    | (with_reducible refine wpList_alloc rfl 29 rfl (allocSaid _) ?_)
    | fail)
  obtain ⟨g1, hg1⟩ : ∃ q, q = w.heap.size := ⟨_, rfl⟩
  have k1' := k1.alloc (.cells (saidC (Ms.blank 0)) 29)
  have k2 := Row.new (w.alloc (.cells (saidC s) 29)) 29 (saidC (Ms.blank 0))
  have hb2 := hb1.alloc hb1.size (.cells (saidC (Ms.blank 0)) 29)
  obtain ⟨g2, hg2⟩ : ∃ q, q = (w.alloc (.cells (saidC s) 29)).heap.size := ⟨_, rfl⟩
  have hg12 : g1 < g2 := by rw [hg1, hg2]; exact k1.lt
  clear hbx k1 hb1
  rw [← hg2] at k2
  rw [← hg1] at k1' hb2
  first | rw [← hg2] | skip
  rw [← hg1]
  generalize (w.alloc (.cells (saidC s) 29)).alloc (.cells (saidC (Ms.blank 0)) 29) = w2 at *
  have HG1 := Lib.hid hg1
  clear hg1 hg2
  obtain ⟨w3, hst, k3, hL3⟩ := newBlank w2 s.kind
  have c0 : w2.cell? ⟨g1, 0, none⟩ = some (.int .i64 s.kind) := (k1'.cell 0).trans (saidC_kind hs)
  have k23 := k2.lt
  rw [hk] at hst k3 c0
  have k13 := k1'.later hL3
  have hA0 : NA w g1 g2 w2.heap.size s (nmAt s (10)) 0 w3 := ⟨hb2.trans (hL3.below.mono (Nat.le_of_lt k1'.lt)), k13, k2.later hL3, blank_wf _, k3, hg12, k23⟩
  clear k1' hb2 hg12 k23 hL3 k3 k2
  go_upto_region 2 with (first
    | (guard_target =~ wpList _ _ _ (_ :: _) _ _; refine wpList_build rfl 29 _ rfl #[(0, .int .i64 (10))] (by simp only [List.map_toArray, List.map_cons, List.map_nil]; rfl) (buildSaidK _ _) ?_)
    | (with_reducible refine wpList_alloc rfl 29 rfl (allocSaid _) ?_)
    | (guard_target =~ wpList _ _ _ (_ :: _) _ _; refine wpList_store rfl 29 (.tmp 3) (.tmp 6) rfl (.pointer (some ⟨w2.heap.size, 0, none⟩)) (.agg (saidC (Ms.blank (10)))) rfl rfl hst ?_)
    | fail)
  clear hst c0
  obtain ⟨g3, hg3⟩ : ∃ q, q = w2.heap.size := ⟨_, rfl⟩
  rw [← hg3] at hA0 ⊢
  clear hg3
  have c0 : w3.cell? ⟨g1, 0, none⟩ = some (.int .i64 (10)) := (k13.cell 0).trans ((saidC_kind hs).trans (by rw [hk]))
  clear k13
  go_upto_region 20 with fail
  refine (wpIn_wide (n := 0)).1 ?_
  refine wpIn_region_chain wide_wide [.pointer (some ⟨g1, offN 8, none⟩), .int .i64 (s.n 8), .pointer (some ⟨g1, offH 8, none⟩), .agg (hC (s.h 8)), .pointer (some ⟨g1, offH 4, none⟩), .agg (hC (s.h 4)), .pointer (some ⟨g3, offN 8, none⟩), undef, .pointer (some ⟨g3, offH 8, none⟩), undef, .pointer (some ⟨g3, offH 4, none⟩)] [7, 9] (NA w g1 g2 g3 s (nmAt s 10)) (fun m W W' hL h => h.later hL) hA0 (by kernel_rfl) (by kernel_rfl) (by kernel_rfl) (by kernel_rfl) (by kernel_rfl) (by kernel_rfl) rfl (by decide) rfl ⟨?_, ?_, ?_, ?_, ?_, ?_, ?_, ?_, ?_, ?_, ?_, trivial⟩ ?_
  · exact chStep_val rfl (fun ac W m he hA => stepOk_want rfl (op_fieldAddr rfl (he.keep (.tmp 1) (by kernel_rfl)) (fieldSd 11 297 (by decide)) rfl))
  · exact chStep_val rfl (fun ac W m he hA => stepOk_want rfl (op_load rfl (show ac.eval (.tmp 96) = .pointer (some ⟨g1, offN 8, none⟩) from he.val 0 96 (by kernel_rfl) rfl rfl) (loadSaidN hs hA.src 8 (by decide)) rfl))
  · exact chStep_val rfl (fun ac W m he hA => stepOk_want rfl (op_fieldAddr rfl (he.keep (.tmp 1) (by kernel_rfl)) (fieldSd 9 264 (by decide)) rfl))
  · exact chStep_val rfl (fun ac W m he hA => stepOk_want rfl (op_load rfl (show ac.eval (.tmp 98) = .pointer (some ⟨g1, offH 8, none⟩) from he.val 2 98 (by kernel_rfl) rfl rfl) (loadSaidH hs hA.src 8 (by decide)) rfl))
  · exact chStep_val rfl (fun ac W m he hA => stepOk_want rfl (op_fieldAddr rfl (he.keep (.tmp 1) (by kernel_rfl)) (fieldSd 5 136 (by decide)) rfl))
  · exact chStep_val rfl (fun ac W m he hA => stepOk_want rfl (op_load rfl (show ac.eval (.tmp 100) = .pointer (some ⟨g1, offH 4, none⟩) from he.val 4 100 (by kernel_rfl) rfl rfl) (loadSaidH hs hA.src 4 (by decide)) rfl))
  · exact chStep_val rfl (fun ac W m he hA => stepOk_want rfl (op_fieldAddr rfl (he.keep (.tmp 3) (by kernel_rfl)) (fieldSd 11 297 (by decide)) rfl))
  · refine chStep_put (k := 0) rfl (.inl rfl) (fun ac W he hA => ⟨rfl, ?_⟩)
    obtain ⟨W', hr, hA'⟩ := na_n hA 8 (by decide) rfl
    exact op_storeK rfl (show ac.eval (.tmp 102) = .pointer (some ⟨g3, offN 8, none⟩) from he.val 6 102 (by kernel_rfl) rfl rfl) (show ac.eval (.tmp 97) = .int .i64 (s.n 8) from he.val 1 97 (by kernel_rfl) rfl rfl) hr ⟨undef, rfl, hA'⟩
  · exact chStep_val rfl (fun ac W m he hA => stepOk_want rfl (op_fieldAddr rfl (he.keep (.tmp 3) (by kernel_rfl)) (fieldSd 9 264 (by decide)) rfl))
  · refine chStep_put (k := 1) rfl (.inr (by kernel_rfl)) (fun ac W he hA => ⟨rfl, ?_⟩)
    obtain ⟨W', hr, hA'⟩ := na_h hA hs 8 (by decide) rfl
    exact op_storeK rfl (show ac.eval (.tmp 103) = .pointer (some ⟨g3, offH 8, none⟩) from he.val 8 103 (by kernel_rfl) rfl rfl) (show ac.eval (.tmp 99) = .agg (hC (s.h 8)) from he.val 3 99 (by kernel_rfl) rfl rfl) hr ⟨undef, rfl, hA'⟩
  · exact chStep_val rfl (fun ac W m he hA => stepOk_want rfl (op_fieldAddr rfl (he.keep (.tmp 3) (by kernel_rfl)) (fieldSd 5 136 (by decide)) rfl))
  intro xs W hA hx hk hgt
  have hA : NA w g1 g2 g3 s (nmAt s 10) 2 W := hA
  obtain ⟨W', hr, hA'⟩ := na_h hA hs 4 (by decide) rfl
  refine last_store rfl rfl ((hgt 10 104 (by decide) (by kernel_rfl)).trans (show xs 10 = .pointer (some ⟨g3, offH 4, none⟩) from hx 10 (by decide) rfl)) ((hgt 5 101 (by decide) (by kernel_rfl)).trans (show xs 5 = .agg (hC (s.h 4)) from hx 5 (by decide) rfl)) hr ?_
  clear hr hA hA0 hx hk hgt
  simp only [initL, lastL, putL, Nat.reduceAdd, Act.put, List.setIfInBounds_toArray, List.set_cons_succ, List.set_cons_zero]
  have hld := loadSaid hA'.wf hA'.row
  obtain ⟨W2, hst, hr2, hgw⟩ := storeSaid (blank_wf 0) hA'.wf hA'.res
  have hb9 : Below g1 w W2 := hA'.low.grown hgw (Nat.le_of_lt hA'.src.lt) (fun j e => by injection e with e; have := hA'.lt; omega)
  have hz9 := saidC_size hA'.wf
  clear hA'
  go_wp2_with (first
    | (guard_target =~ wpList _ _ _ (_ :: _) _ _; refine wpList_load rfl 29 (.tmp 3) rfl (.pointer (some ⟨g3, 0, none⟩)) rfl hld ?_)
    | (guard_target =~ wpList _ _ _ (_ :: _) _ _; refine wpList_store rfl 29 (.tmp 2) (.tmp 126) rfl (.pointer (some ⟨g2, 0, none⟩)) _ rfl rfl hst ?_)
    | fail)
  exact bodyPost_ret (results_cell1 rfl _ _ g2 29 _ _ rfl hr2 Tryz.underlying29 rfl (by rw [hz9]; exact infoSaid)) rfl ⟨rfl, by have h9 := HG1.out; subst h9; exact hb9⟩
set_option maxRecDepth 100000 in
set_option maxHeartbeats 2000000 in
theorem named11 (s : Said) (hs : s.wf) (hk : s.kind = 11) (w : World) : Calls Tryz.prog 28 #[.agg (saidC s)] w fun e w' => e = .returned (.agg (saidC (nmd s 11))) ∧ Later w w' := by
  have k1 := Row.new w 29 (saidC s)
  have hbx := boxSaid hs w
  have hb1 := below_new w (.cells (saidC s) 29)
  go_enter Tryz.func28, Tryz.ntmps28
  go_upto_region 1 with (first
    | (with_reducible refine wpList_alloc rfl 29 rfl (allocSaid _) ?_)
    | fail)
  obtain ⟨g1, hg1⟩ : ∃ q, q = w.heap.size := ⟨_, rfl⟩
  have k1' := k1.alloc (.cells (saidC (Ms.blank 0)) 29)
  have k2 := Row.new (w.alloc (.cells (saidC s) 29)) 29 (saidC (Ms.blank 0))
  have hb2 := hb1.alloc hb1.size (.cells (saidC (Ms.blank 0)) 29)
  obtain ⟨g2, hg2⟩ : ∃ q, q = (w.alloc (.cells (saidC s) 29)).heap.size := ⟨_, rfl⟩
  have hg12 : g1 < g2 := by rw [hg1, hg2]; exact k1.lt
  clear hbx k1 hb1
  rw [← hg2] at k2
  rw [← hg1] at k1' hb2
  first | rw [← hg2] | skip
  rw [← hg1]
  generalize (w.alloc (.cells (saidC s) 29)).alloc (.cells (saidC (Ms.blank 0)) 29) = w2 at *
  have HG1 := Lib.hid hg1
  clear hg1 hg2
  obtain ⟨w3, hst, k3, hL3⟩ := newBlank w2 s.kind
  have c0 : w2.cell? ⟨g1, 0, none⟩ = some (.int .i64 s.kind) := (k1'.cell 0).trans (saidC_kind hs)
  have k23 := k2.lt
  rw [hk] at hst k3 c0
  have k13 := k1'.later hL3
  have hA0 : NA w g1 g2 w2.heap.size s (nmAt s (11)) 0 w3 := ⟨hb2.trans (hL3.below.mono (Nat.le_of_lt k1'.lt)), k13, k2.later hL3, blank_wf _, k3, hg12, k23⟩
  clear k1' hb2 hg12 k23 hL3 k3 k2
  go_upto_region 2 with (first
    | (guard_target =~ wpList _ _ _ (_ :: _) _ _; refine wpList_build rfl 29 _ rfl #[(0, .int .i64 (11))] (by simp only [List.map_toArray, List.map_cons, List.map_nil]; rfl) (buildSaidK _ _) ?_)
    | (with_reducible refine wpList_alloc rfl 29 rfl (allocSaid _) ?_)
    | (guard_target =~ wpList _ _ _ (_ :: _) _ _; refine wpList_store rfl 29 (.tmp 3) (.tmp 6) rfl (.pointer (some ⟨w2.heap.size, 0, none⟩)) (.agg (saidC (Ms.blank (11)))) rfl rfl hst ?_)
    | fail)
  clear hst c0
  obtain ⟨g3, hg3⟩ : ∃ q, q = w2.heap.size := ⟨_, rfl⟩
  rw [← hg3] at hA0 ⊢
  clear hg3
  have c0 : w3.cell? ⟨g1, 0, none⟩ = some (.int .i64 (11)) := (k13.cell 0).trans ((saidC_kind hs).trans (by rw [hk]))
  clear k13
  go_upto_region 22 with fail
  refine (wpIn_wide (n := 0)).1 ?_
  refine wpIn_region_chain wide_wide [.pointer (some ⟨g1, offN 8, none⟩), .int .i64 (s.n 8), .pointer (some ⟨g1, offN 7, none⟩), .int .i64 (s.n 7), .pointer (some ⟨g3, offN 8, none⟩), undef, .pointer (some ⟨g3, offN 7, none⟩)] [5] (NA w g1 g2 g3 s (nmAt s 11)) (fun m W W' hL h => h.later hL) hA0 (by kernel_rfl) (by kernel_rfl) (by kernel_rfl) (by kernel_rfl) (by kernel_rfl) (by kernel_rfl) rfl (by decide) rfl ⟨?_, ?_, ?_, ?_, ?_, ?_, ?_, trivial⟩ ?_
  · exact chStep_val rfl (fun ac W m he hA => stepOk_want rfl (op_fieldAddr rfl (he.keep (.tmp 1) (by kernel_rfl)) (fieldSd 11 297 (by decide)) rfl))
  · exact chStep_val rfl (fun ac W m he hA => stepOk_want rfl (op_load rfl (show ac.eval (.tmp 107) = .pointer (some ⟨g1, offN 8, none⟩) from he.val 0 107 (by kernel_rfl) rfl rfl) (loadSaidN hs hA.src 8 (by decide)) rfl))
  · exact chStep_val rfl (fun ac W m he hA => stepOk_want rfl (op_fieldAddr rfl (he.keep (.tmp 1) (by kernel_rfl)) (fieldSd 10 296 (by decide)) rfl))
  · exact chStep_val rfl (fun ac W m he hA => stepOk_want rfl (op_load rfl (show ac.eval (.tmp 109) = .pointer (some ⟨g1, offN 7, none⟩) from he.val 2 109 (by kernel_rfl) rfl rfl) (loadSaidN hs hA.src 7 (by decide)) rfl))
  · exact chStep_val rfl (fun ac W m he hA => stepOk_want rfl (op_fieldAddr rfl (he.keep (.tmp 3) (by kernel_rfl)) (fieldSd 11 297 (by decide)) rfl))
  · refine chStep_put (k := 0) rfl (.inl rfl) (fun ac W he hA => ⟨rfl, ?_⟩)
    obtain ⟨W', hr, hA'⟩ := na_n hA 8 (by decide) rfl
    exact op_storeK rfl (show ac.eval (.tmp 111) = .pointer (some ⟨g3, offN 8, none⟩) from he.val 4 111 (by kernel_rfl) rfl rfl) (show ac.eval (.tmp 108) = .int .i64 (s.n 8) from he.val 1 108 (by kernel_rfl) rfl rfl) hr ⟨undef, rfl, hA'⟩
  · exact chStep_val rfl (fun ac W m he hA => stepOk_want rfl (op_fieldAddr rfl (he.keep (.tmp 3) (by kernel_rfl)) (fieldSd 10 296 (by decide)) rfl))
  intro xs W hA hx hk hgt
  have hA : NA w g1 g2 g3 s (nmAt s 11) 1 W := hA
  obtain ⟨W', hr, hA'⟩ := na_n hA 7 (by decide) rfl
  refine last_store rfl rfl ((hgt 6 112 (by decide) (by kernel_rfl)).trans (show xs 6 = .pointer (some ⟨g3, offN 7, none⟩) from hx 6 (by decide) rfl)) ((hgt 3 110 (by decide) (by kernel_rfl)).trans (show xs 3 = .int .i64 (s.n 7) from hx 3 (by decide) rfl)) hr ?_
  clear hr hA hA0 hx hk hgt
  simp only [initL, lastL, putL, Nat.reduceAdd, Act.put, List.setIfInBounds_toArray, List.set_cons_succ, List.set_cons_zero]
  have hld := loadSaid hA'.wf hA'.row
  obtain ⟨W2, hst, hr2, hgw⟩ := storeSaid (blank_wf 0) hA'.wf hA'.res
  have hb9 : Below g1 w W2 := hA'.low.grown hgw (Nat.le_of_lt hA'.src.lt) (fun j e => by injection e with e; have := hA'.lt; omega)
  have hz9 := saidC_size hA'.wf
  clear hA'
  go_wp2_with (first
    | (guard_target =~ wpList _ _ _ (_ :: _) _ _; refine wpList_load rfl 29 (.tmp 3) rfl (.pointer (some ⟨g3, 0, none⟩)) rfl hld ?_)
    | (guard_target =~ wpList _ _ _ (_ :: _) _ _; refine wpList_store rfl 29 (.tmp 2) (.tmp 126) rfl (.pointer (some ⟨g2, 0, none⟩)) _ rfl rfl hst ?_)
    | fail)
  exact bodyPost_ret (results_cell1 rfl _ _ g2 29 _ _ rfl hr2 Tryz.underlying29 rfl (by rw [hz9]; exact infoSaid)) rfl ⟨rfl, by have h9 := HG1.out; subst h9; exact hb9⟩
set_option maxRecDepth 100000 in
set_option maxHeartbeats 2000000 in
theorem named13 (s : Said) (hs : s.wf) (hk : s.kind = 13) (w : World) : Calls Tryz.prog 28 #[.agg (saidC s)] w fun e w' => e = .returned (.agg (saidC (nmd s 13))) ∧ Later w w' := by
  have k1 := Row.new w 29 (saidC s)
  have hbx := boxSaid hs w
  have hb1 := below_new w (.cells (saidC s) 29)
  go_enter Tryz.func28, Tryz.ntmps28
  go_upto_region 1 with (first
    | (with_reducible refine wpList_alloc rfl 29 rfl (allocSaid _) ?_)
    | fail)
  obtain ⟨g1, hg1⟩ : ∃ q, q = w.heap.size := ⟨_, rfl⟩
  have k1' := k1.alloc (.cells (saidC (Ms.blank 0)) 29)
  have k2 := Row.new (w.alloc (.cells (saidC s) 29)) 29 (saidC (Ms.blank 0))
  have hb2 := hb1.alloc hb1.size (.cells (saidC (Ms.blank 0)) 29)
  obtain ⟨g2, hg2⟩ : ∃ q, q = (w.alloc (.cells (saidC s) 29)).heap.size := ⟨_, rfl⟩
  have hg12 : g1 < g2 := by rw [hg1, hg2]; exact k1.lt
  clear hbx k1 hb1
  rw [← hg2] at k2
  rw [← hg1] at k1' hb2
  first | rw [← hg2] | skip
  rw [← hg1]
  generalize (w.alloc (.cells (saidC s) 29)).alloc (.cells (saidC (Ms.blank 0)) 29) = w2 at *
  have HG1 := Lib.hid hg1
  clear hg1 hg2
  obtain ⟨w3, hst, k3, hL3⟩ := newBlank w2 s.kind
  have c0 : w2.cell? ⟨g1, 0, none⟩ = some (.int .i64 s.kind) := (k1'.cell 0).trans (saidC_kind hs)
  have k23 := k2.lt
  rw [hk] at hst k3 c0
  have k13 := k1'.later hL3
  have hA0 : NA w g1 g2 w2.heap.size s (nmAt s (13)) 0 w3 := ⟨hb2.trans (hL3.below.mono (Nat.le_of_lt k1'.lt)), k13, k2.later hL3, blank_wf _, k3, hg12, k23⟩
  clear k1' hb2 hg12 k23 hL3 k3 k2
  go_upto_region 2 with (first
    | (guard_target =~ wpList _ _ _ (_ :: _) _ _; refine wpList_build rfl 29 _ rfl #[(0, .int .i64 (13))] (by simp only [List.map_toArray, List.map_cons, List.map_nil]; rfl) (buildSaidK _ _) ?_)
    | (with_reducible refine wpList_alloc rfl 29 rfl (allocSaid _) ?_)
    | (guard_target =~ wpList _ _ _ (_ :: _) _ _; refine wpList_store rfl 29 (.tmp 3) (.tmp 6) rfl (.pointer (some ⟨w2.heap.size, 0, none⟩)) (.agg (saidC (Ms.blank (13)))) rfl rfl hst ?_)
    | fail)
  clear hst c0
  obtain ⟨g3, hg3⟩ : ∃ q, q = w2.heap.size := ⟨_, rfl⟩
  rw [← hg3] at hA0 ⊢
  clear hg3
  have c0 : w3.cell? ⟨g1, 0, none⟩ = some (.int .i64 (13)) := (k13.cell 0).trans ((saidC_kind hs).trans (by rw [hk]))
  clear k13
  go_upto_region 24 with fail
  refine (wpIn_wide (n := 0)).1 ?_
  refine wpIn_region_chain wide_wide [.pointer (some ⟨g1, offN 6, none⟩), .int .i64 (s.n 6), .pointer (some ⟨g1, offH 7, none⟩), .agg (hC (s.h 7)), .pointer (some ⟨g3, offN 6, none⟩), undef, .pointer (some ⟨g3, offH 7, none⟩)] [5] (NA w g1 g2 g3 s (nmAt s 13)) (fun m W W' hL h => h.later hL) hA0 (by kernel_rfl) (by kernel_rfl) (by kernel_rfl) (by kernel_rfl) (by kernel_rfl) (by kernel_rfl) rfl (by decide) rfl ⟨?_, ?_, ?_, ?_, ?_, ?_, ?_, trivial⟩ ?_
  · exact chStep_val rfl (fun ac W m he hA => stepOk_want rfl (op_fieldAddr rfl (he.keep (.tmp 1) (by kernel_rfl)) (fieldSd 3 103 (by decide)) rfl))
  · exact chStep_val rfl (fun ac W m he hA => stepOk_want rfl (op_load rfl (show ac.eval (.tmp 115) = .pointer (some ⟨g1, offN 6, none⟩) from he.val 0 115 (by kernel_rfl) rfl rfl) (loadSaidN hs hA.src 6 (by decide)) rfl))
  · exact chStep_val rfl (fun ac W m he hA => stepOk_want rfl (op_fieldAddr rfl (he.keep (.tmp 1) (by kernel_rfl)) (fieldSd 8 232 (by decide)) rfl))
  · exact chStep_val rfl (fun ac W m he hA => stepOk_want rfl (op_load rfl (show ac.eval (.tmp 117) = .pointer (some ⟨g1, offH 7, none⟩) from he.val 2 117 (by kernel_rfl) rfl rfl) (loadSaidH hs hA.src 7 (by decide)) rfl))
  · exact chStep_val rfl (fun ac W m he hA => stepOk_want rfl (op_fieldAddr rfl (he.keep (.tmp 3) (by kernel_rfl)) (fieldSd 3 103 (by decide)) rfl))
  · refine chStep_put (k := 0) rfl (.inl rfl) (fun ac W he hA => ⟨rfl, ?_⟩)
    obtain ⟨W', hr, hA'⟩ := na_n hA 6 (by decide) rfl
    exact op_storeK rfl (show ac.eval (.tmp 119) = .pointer (some ⟨g3, offN 6, none⟩) from he.val 4 119 (by kernel_rfl) rfl rfl) (show ac.eval (.tmp 116) = .int .i64 (s.n 6) from he.val 1 116 (by kernel_rfl) rfl rfl) hr ⟨undef, rfl, hA'⟩
  · exact chStep_val rfl (fun ac W m he hA => stepOk_want rfl (op_fieldAddr rfl (he.keep (.tmp 3) (by kernel_rfl)) (fieldSd 8 232 (by decide)) rfl))
  intro xs W hA hx hk hgt
  have hA : NA w g1 g2 g3 s (nmAt s 13) 1 W := hA
  obtain ⟨W', hr, hA'⟩ := na_h hA hs 7 (by decide) rfl
  refine last_store rfl rfl ((hgt 6 120 (by decide) (by kernel_rfl)).trans (show xs 6 = .pointer (some ⟨g3, offH 7, none⟩) from hx 6 (by decide) rfl)) ((hgt 3 118 (by decide) (by kernel_rfl)).trans (show xs 3 = .agg (hC (s.h 7)) from hx 3 (by decide) rfl)) hr ?_
  clear hr hA hA0 hx hk hgt
  simp only [initL, lastL, putL, Nat.reduceAdd, Act.put, List.setIfInBounds_toArray, List.set_cons_succ, List.set_cons_zero]
  have hld := loadSaid hA'.wf hA'.row
  obtain ⟨W2, hst, hr2, hgw⟩ := storeSaid (blank_wf 0) hA'.wf hA'.res
  have hb9 : Below g1 w W2 := hA'.low.grown hgw (Nat.le_of_lt hA'.src.lt) (fun j e => by injection e with e; have := hA'.lt; omega)
  have hz9 := saidC_size hA'.wf
  clear hA'
  go_wp2_with (first
    | (guard_target =~ wpList _ _ _ (_ :: _) _ _; refine wpList_load rfl 29 (.tmp 3) rfl (.pointer (some ⟨g3, 0, none⟩)) rfl hld ?_)
    | (guard_target =~ wpList _ _ _ (_ :: _) _ _; refine wpList_store rfl 29 (.tmp 2) (.tmp 126) rfl (.pointer (some ⟨g2, 0, none⟩)) _ rfl rfl hst ?_)
    | fail)
  exact bodyPost_ret (results_cell1 rfl _ _ g2 29 _ _ rfl hr2 Tryz.underlying29 rfl (by rw [hz9]; exact infoSaid)) rfl ⟨rfl, by have h9 := HG1.out; subst h9; exact hb9⟩
set_option maxRecDepth 100000 in
set_option maxHeartbeats 2000000 in
theorem named4 (s : Said) (hs : s.wf) (hk : s.kind = 4) (w : World) : Calls Tryz.prog 28 #[.agg (saidC s)] w fun e w' => e = .returned (.agg (saidC (nmd s 4))) ∧ Later w w' := by
  have k1 := Row.new w 29 (saidC s)
  have hbx := boxSaid hs w
  have hb1 := below_new w (.cells (saidC s) 29)
  go_enter Tryz.func28, Tryz.ntmps28
  go_upto_region 1 with (first
    | (with_reducible refine wpList_alloc rfl 29 rfl (allocSaid _) ?_)
    | fail)
  obtain ⟨g1, hg1⟩ : ∃ q, q = w.heap.size := ⟨_, rfl⟩
  have k1' := k1.alloc (.cells (saidC (Ms.blank 0)) 29)
  have k2 := Row.new (w.alloc (.cells (saidC s) 29)) 29 (saidC (Ms.blank 0))
  have hb2 := hb1.alloc hb1.size (.cells (saidC (Ms.blank 0)) 29)
  obtain ⟨g2, hg2⟩ : ∃ q, q = (w.alloc (.cells (saidC s) 29)).heap.size := ⟨_, rfl⟩
  have hg12 : g1 < g2 := by rw [hg1, hg2]; exact k1.lt
  clear hbx k1 hb1
  rw [← hg2] at k2
  rw [← hg1] at k1' hb2
  first | rw [← hg2] | skip
  rw [← hg1]
  generalize (w.alloc (.cells (saidC s) 29)).alloc (.cells (saidC (Ms.blank 0)) 29) = w2 at *
  have HG1 := Lib.hid hg1
  clear hg1 hg2
  obtain ⟨w3, hst, k3, hL3⟩ := newBlank w2 s.kind
  have c0 : w2.cell? ⟨g1, 0, none⟩ = some (.int .i64 s.kind) := (k1'.cell 0).trans (saidC_kind hs)
  have k23 := k2.lt
  rw [hk] at hst k3 c0
  have k13 := k1'.later hL3
  have hA0 : NA w g1 g2 w2.heap.size s (nmAt s (4)) 0 w3 := ⟨hb2.trans (hL3.below.mono (Nat.le_of_lt k1'.lt)), k13, k2.later hL3, blank_wf _, k3, hg12, k23⟩
  clear k1' hb2 hg12 k23 hL3 k3 k2
  go_upto_region 2 with (first
    | (guard_target =~ wpList _ _ _ (_ :: _) _ _; refine wpList_build rfl 29 _ rfl #[(0, .int .i64 (4))] (by simp only [List.map_toArray, List.map_cons, List.map_nil]; rfl) (buildSaidK _ _) ?_)
    | (with_reducible refine wpList_alloc rfl 29 rfl (allocSaid _) ?_)
    | (guard_target =~ wpList _ _ _ (_ :: _) _ _; refine wpList_store rfl 29 (.tmp 3) (.tmp 6) rfl (.pointer (some ⟨w2.heap.size, 0, none⟩)) (.agg (saidC (Ms.blank (4)))) rfl rfl hst ?_)
    | fail)
  clear hst c0
  obtain ⟨g3, hg3⟩ : ∃ q, q = w2.heap.size := ⟨_, rfl⟩
  rw [← hg3] at hA0 ⊢
  clear hg3
  have c0 : w3.cell? ⟨g1, 0, none⟩ = some (.int .i64 (4)) := (k13.cell 0).trans ((saidC_kind hs).trans (by rw [hk]))
  clear k13
  go_upto_region 10 with fail
  have hA : NA w g1 g2 g3 s (nmAt s 4) 0 w3 := hA0
  obtain ⟨W', hr, hA'⟩ := na_h hA hs 7 (by decide) rfl
  have hld := (loadSaidH hs hA.src 7 (by decide))
  clear hA0 hA
  go_upto_region 27 with (first
    | (guard_target =~ wpList _ _ _ (_ :: _) _ _; refine wpList_load rfl 24 (.tmp 50) rfl (.pointer (some ⟨g1, offH 7, none⟩)) rfl hld ?_)
    | (guard_target =~ wpList _ _ _ (_ :: _) _ _; refine wpList_store rfl 24 (.tmp 52) (.tmp 51) rfl (.pointer (some ⟨g3, offH 7, none⟩)) (.agg (hC (s.h 7))) rfl rfl hr ?_)
    | fail)
  clear hr hld
  have hld := loadSaid hA'.wf hA'.row
  obtain ⟨W2, hst, hr2, hgw⟩ := storeSaid (blank_wf 0) hA'.wf hA'.res
  have hb9 : Below g1 w W2 := hA'.low.grown hgw (Nat.le_of_lt hA'.src.lt) (fun j e => by injection e with e; have := hA'.lt; omega)
  have hz9 := saidC_size hA'.wf
  clear hA'
  go_wp2_with (first
    | (guard_target =~ wpList _ _ _ (_ :: _) _ _; refine wpList_load rfl 29 (.tmp 3) rfl (.pointer (some ⟨g3, 0, none⟩)) rfl hld ?_)
    | (guard_target =~ wpList _ _ _ (_ :: _) _ _; refine wpList_store rfl 29 (.tmp 2) (.tmp 126) rfl (.pointer (some ⟨g2, 0, none⟩)) _ rfl rfl hst ?_)
    | fail)
  exact bodyPost_ret (results_cell1 rfl _ _ g2 29 _ _ rfl hr2 Tryz.underlying29 rfl (by rw [hz9]; exact infoSaid)) rfl ⟨rfl, by have h9 := HG1.out; subst h9; exact hb9⟩
set_option maxRecDepth 100000 in
set_option maxHeartbeats 2000000 in
theorem named14 (s : Said) (hs : s.wf) (hk : s.kind = 14) (w : World) : Calls Tryz.prog 28 #[.agg (saidC s)] w fun e w' => e = .returned (.agg (saidC (nmd s 14))) ∧ Later w w' := by
  have k1 := Row.new w 29 (saidC s)
  have hbx := boxSaid hs w
  have hb1 := below_new w (.cells (saidC s) 29)
  go_enter Tryz.func28, Tryz.ntmps28
  go_upto_region 1 with (first
    | (with_reducible refine wpList_alloc rfl 29 rfl (allocSaid _) ?_)
    | fail)
  obtain ⟨g1, hg1⟩ : ∃ q, q = w.heap.size := ⟨_, rfl⟩
  have k1' := k1.alloc (.cells (saidC (Ms.blank 0)) 29)
  have k2 := Row.new (w.alloc (.cells (saidC s) 29)) 29 (saidC (Ms.blank 0))
  have hb2 := hb1.alloc hb1.size (.cells (saidC (Ms.blank 0)) 29)
  obtain ⟨g2, hg2⟩ : ∃ q, q = (w.alloc (.cells (saidC s) 29)).heap.size := ⟨_, rfl⟩
  have hg12 : g1 < g2 := by rw [hg1, hg2]; exact k1.lt
  clear hbx k1 hb1
  rw [← hg2] at k2
  rw [← hg1] at k1' hb2
  first | rw [← hg2] | skip
  rw [← hg1]
  generalize (w.alloc (.cells (saidC s) 29)).alloc (.cells (saidC (Ms.blank 0)) 29) = w2 at *
  have HG1 := Lib.hid hg1
  clear hg1 hg2
  obtain ⟨w3, hst, k3, hL3⟩ := newBlank w2 s.kind
  have c0 : w2.cell? ⟨g1, 0, none⟩ = some (.int .i64 s.kind) := (k1'.cell 0).trans (saidC_kind hs)
  have k23 := k2.lt
  rw [hk] at hst k3 c0
  have k13 := k1'.later hL3
  have hA0 : NA w g1 g2 w2.heap.size s (nmAt s (14)) 0 w3 := ⟨hb2.trans (hL3.below.mono (Nat.le_of_lt k1'.lt)), k13, k2.later hL3, blank_wf _, k3, hg12, k23⟩
  clear k1' hb2 hg12 k23 hL3 k3 k2
  go_upto_region 2 with (first
    | (guard_target =~ wpList _ _ _ (_ :: _) _ _; refine wpList_build rfl 29 _ rfl #[(0, .int .i64 (14))] (by simp only [List.map_toArray, List.map_cons, List.map_nil]; rfl) (buildSaidK _ _) ?_)
    | (with_reducible refine wpList_alloc rfl 29 rfl (allocSaid _) ?_)
    | (guard_target =~ wpList _ _ _ (_ :: _) _ _; refine wpList_store rfl 29 (.tmp 3) (.tmp 6) rfl (.pointer (some ⟨w2.heap.size, 0, none⟩)) (.agg (saidC (Ms.blank (14)))) rfl rfl hst ?_)
    | fail)
  clear hst c0
  obtain ⟨g3, hg3⟩ : ∃ q, q = w2.heap.size := ⟨_, rfl⟩
  rw [← hg3] at hA0 ⊢
  clear hg3
  have c0 : w3.cell? ⟨g1, 0, none⟩ = some (.int .i64 (14)) := (k13.cell 0).trans ((saidC_kind hs).trans (by rw [hk]))
  clear k13
  go_upto_region 26 with fail
  have hA : NA w g1 g2 g3 s (nmAt s 14) 0 w3 := hA0
  obtain ⟨W', hr, hA'⟩ := na_n hA 11 (by decide) rfl
  have hld := (loadSaidN hs hA.src 11 (by decide))
  clear hA0 hA
  go_upto_region 27 with (first
    | (guard_target =~ wpList _ _ _ (_ :: _) _ _; refine wpList_load rfl 2 (.tmp 123) rfl (.pointer (some ⟨g1, offN 11, none⟩)) rfl hld ?_)
    | (guard_target =~ wpList _ _ _ (_ :: _) _ _; refine wpList_store rfl 2 (.tmp 125) (.tmp 124) rfl (.pointer (some ⟨g3, offN 11, none⟩)) (.int .i64 (s.n 11)) rfl rfl hr ?_)
    | fail)
  clear hr hld
  have hld := loadSaid hA'.wf hA'.row
  obtain ⟨W2, hst, hr2, hgw⟩ := storeSaid (blank_wf 0) hA'.wf hA'.res
  have hb9 : Below g1 w W2 := hA'.low.grown hgw (Nat.le_of_lt hA'.src.lt) (fun j e => by injection e with e; have := hA'.lt; omega)
  have hz9 := saidC_size hA'.wf
  clear hA'
  go_wp2_with (first
    | (guard_target =~ wpList _ _ _ (_ :: _) _ _; refine wpList_load rfl 29 (.tmp 3) rfl (.pointer (some ⟨g3, 0, none⟩)) rfl hld ?_)
    | (guard_target =~ wpList _ _ _ (_ :: _) _ _; refine wpList_store rfl 29 (.tmp 2) (.tmp 126) rfl (.pointer (some ⟨g2, 0, none⟩)) _ rfl rfl hst ?_)
    | fail)
  exact bodyPost_ret (results_cell1 rfl _ _ g2 29 _ _ rfl hr2 Tryz.underlying29 rfl (by rw [hz9]; exact infoSaid)) rfl ⟨rfl, by have h9 := HG1.out; subst h9; exact hb9⟩
set_option maxRecDepth 100000 in
set_option maxHeartbeats 2000000 in
theorem named5 (s : Said) (hs : s.wf) (hk : s.kind = 5) (w : World) : Calls Tryz.prog 28 #[.agg (saidC s)] w fun e w' => e = .returned (.agg (saidC (nmd s 5))) ∧ Later w w' := by
  have k1 := Row.new w 29 (saidC s)
  have hbx := boxSaid hs w
  have hb1 := below_new w (.cells (saidC s) 29)
  go_enter Tryz.func28, Tryz.ntmps28
  go_upto_region 1 with (first
    | (with_reducible refine wpList_alloc rfl 29 rfl (allocSaid _) ?_)
    | fail)
  obtain ⟨g1, hg1⟩ : ∃ q, q = w.heap.size := ⟨_, rfl⟩
  have k1' := k1.alloc (.cells (saidC (Ms.blank 0)) 29)
  have k2 := Row.new (w.alloc (.cells (saidC s) 29)) 29 (saidC (Ms.blank 0))
  have hb2 := hb1.alloc hb1.size (.cells (saidC (Ms.blank 0)) 29)
  obtain ⟨g2, hg2⟩ : ∃ q, q = (w.alloc (.cells (saidC s) 29)).heap.size := ⟨_, rfl⟩
  have hg12 : g1 < g2 := by rw [hg1, hg2]; exact k1.lt
  clear hbx k1 hb1
  rw [← hg2] at k2
  rw [← hg1] at k1' hb2
  first | rw [← hg2] | skip
  rw [← hg1]
  generalize (w.alloc (.cells (saidC s) 29)).alloc (.cells (saidC (Ms.blank 0)) 29) = w2 at *
  have HG1 := Lib.hid hg1
  clear hg1 hg2
  obtain ⟨w3, hst, k3, hL3⟩ := newBlank w2 s.kind
  have c0 : w2.cell? ⟨g1, 0, none⟩ = some (.int .i64 s.kind) := (k1'.cell 0).trans (saidC_kind hs)
  have k23 := k2.lt
  rw [hk] at hst k3 c0
  have k13 := k1'.later hL3
  have hA0 : NA w g1 g2 w2.heap.size s (nmAt s (5)) 0 w3 := ⟨hb2.trans (hL3.below.mono (Nat.le_of_lt k1'.lt)), k13, k2.later hL3, blank_wf _, k3, hg12, k23⟩
  clear k1' hb2 hg12 k23 hL3 k3 k2
  go_upto_region 2 with (first
    | (guard_target =~ wpList _ _ _ (_ :: _) _ _; refine wpList_build rfl 29 _ rfl #[(0, .int .i64 (5))] (by simp only [List.map_toArray, List.map_cons, List.map_nil]; rfl) (buildSaidK _ _) ?_)
    | (with_reducible refine wpList_alloc rfl 29 rfl (allocSaid _) ?_)
    | (guard_target =~ wpList _ _ _ (_ :: _) _ _; refine wpList_store rfl 29 (.tmp 3) (.tmp 6) rfl (.pointer (some ⟨w2.heap.size, 0, none⟩)) (.agg (saidC (Ms.blank (5)))) rfl rfl hst ?_)
    | fail)
  clear hst c0
  obtain ⟨g3, hg3⟩ : ∃ q, q = w2.heap.size := ⟨_, rfl⟩
  rw [← hg3] at hA0 ⊢
  clear hg3
  have c0 : w3.cell? ⟨g1, 0, none⟩ = some (.int .i64 (5)) := (k13.cell 0).trans ((saidC_kind hs).trans (by rw [hk]))
  clear k13
  go_upto_region 27 with fail
  have hA' := hA0
  clear hA0
  have hld := loadSaid hA'.wf hA'.row
  obtain ⟨W2, hst, hr2, hgw⟩ := storeSaid (blank_wf 0) hA'.wf hA'.res
  have hb9 : Below g1 w W2 := hA'.low.grown hgw (Nat.le_of_lt hA'.src.lt) (fun j e => by injection e with e; have := hA'.lt; omega)
  have hz9 := saidC_size hA'.wf
  clear hA'
  go_wp2_with (first
    | (guard_target =~ wpList _ _ _ (_ :: _) _ _; refine wpList_load rfl 29 (.tmp 3) rfl (.pointer (some ⟨g3, 0, none⟩)) rfl hld ?_)
    | (guard_target =~ wpList _ _ _ (_ :: _) _ _; refine wpList_store rfl 29 (.tmp 2) (.tmp 126) rfl (.pointer (some ⟨g2, 0, none⟩)) _ rfl rfl hst ?_)
    | fail)
  exact bodyPost_ret (results_cell1 rfl _ _ g2 29 _ _ rfl hr2 Tryz.underlying29 rfl (by rw [hz9]; exact infoSaid)) rfl ⟨rfl, by have h9 := HG1.out; subst h9; exact hb9⟩
set_option maxRecDepth 100000 in
set_option maxHeartbeats 2000000 in
theorem named12 (s : Said) (hs : s.wf) (hk : s.kind = 12) (w : World) : Calls Tryz.prog 28 #[.agg (saidC s)] w fun e w' => e = .returned (.agg (saidC (nmd s 12))) ∧ Later w w' := by
  have k1 := Row.new w 29 (saidC s)
  have hbx := boxSaid hs w
  have hb1 := below_new w (.cells (saidC s) 29)
  go_enter Tryz.func28, Tryz.ntmps28
  go_upto_region 1 with (first
    | (with_reducible refine wpList_alloc rfl 29 rfl (allocSaid _) ?_)
    | fail)
  obtain ⟨g1, hg1⟩ : ∃ q, q = w.heap.size := ⟨_, rfl⟩
  have k1' := k1.alloc (.cells (saidC (Ms.blank 0)) 29)
  have k2 := Row.new (w.alloc (.cells (saidC s) 29)) 29 (saidC (Ms.blank 0))
  have hb2 := hb1.alloc hb1.size (.cells (saidC (Ms.blank 0)) 29)
  obtain ⟨g2, hg2⟩ : ∃ q, q = (w.alloc (.cells (saidC s) 29)).heap.size := ⟨_, rfl⟩
  have hg12 : g1 < g2 := by rw [hg1, hg2]; exact k1.lt
  clear hbx k1 hb1
  rw [← hg2] at k2
  rw [← hg1] at k1' hb2
  first | rw [← hg2] | skip
  rw [← hg1]
  generalize (w.alloc (.cells (saidC s) 29)).alloc (.cells (saidC (Ms.blank 0)) 29) = w2 at *
  have HG1 := Lib.hid hg1
  clear hg1 hg2
  obtain ⟨w3, hst, k3, hL3⟩ := newBlank w2 s.kind
  have c0 : w2.cell? ⟨g1, 0, none⟩ = some (.int .i64 s.kind) := (k1'.cell 0).trans (saidC_kind hs)
  have k23 := k2.lt
  rw [hk] at hst k3 c0
  have k13 := k1'.later hL3
  have hA0 : NA w g1 g2 w2.heap.size s (nmAt s (12)) 0 w3 := ⟨hb2.trans (hL3.below.mono (Nat.le_of_lt k1'.lt)), k13, k2.later hL3, blank_wf _, k3, hg12, k23⟩
  clear k1' hb2 hg12 k23 hL3 k3 k2
  go_upto_region 2 with (first
    | (guard_target =~ wpList _ _ _ (_ :: _) _ _; refine wpList_build rfl 29 _ rfl #[(0, .int .i64 (12))] (by simp only [List.map_toArray, List.map_cons, List.map_nil]; rfl) (buildSaidK _ _) ?_)
    | (with_reducible refine wpList_alloc rfl 29 rfl (allocSaid _) ?_)
    | (guard_target =~ wpList _ _ _ (_ :: _) _ _; refine wpList_store rfl 29 (.tmp 3) (.tmp 6) rfl (.pointer (some ⟨w2.heap.size, 0, none⟩)) (.agg (saidC (Ms.blank (12)))) rfl rfl hst ?_)
    | fail)
  clear hst c0
  obtain ⟨g3, hg3⟩ : ∃ q, q = w2.heap.size := ⟨_, rfl⟩
  rw [← hg3] at hA0 ⊢
  clear hg3
  have c0 : w3.cell? ⟨g1, 0, none⟩ = some (.int .i64 (12)) := (k13.cell 0).trans ((saidC_kind hs).trans (by rw [hk]))
  clear k13
  go_upto_region 27 with fail
  have hA' := hA0
  clear hA0
  have hld := loadSaid hA'.wf hA'.row
  obtain ⟨W2, hst, hr2, hgw⟩ := storeSaid (blank_wf 0) hA'.wf hA'.res
  have hb9 : Below g1 w W2 := hA'.low.grown hgw (Nat.le_of_lt hA'.src.lt) (fun j e => by injection e with e; have := hA'.lt; omega)
  have hz9 := saidC_size hA'.wf
  clear hA'
  go_wp2_with (first
    | (guard_target =~ wpList _ _ _ (_ :: _) _ _; refine wpList_load rfl 29 (.tmp 3) rfl (.pointer (some ⟨g3, 0, none⟩)) rfl hld ?_)
    | (guard_target =~ wpList _ _ _ (_ :: _) _ _; refine wpList_store rfl 29 (.tmp 2) (.tmp 126) rfl (.pointer (some ⟨g2, 0, none⟩)) _ rfl rfl hst ?_)
    | fail)
  exact bodyPost_ret (results_cell1 rfl _ _ g2 29 _ _ rfl hr2 Tryz.underlying29 rfl (by rw [hz9]; exact infoSaid)) rfl ⟨rfl, by have h9 := HG1.out; subst h9; exact hb9⟩
theorem named_any (s : Said) (hs : s.wf) (hk : 1 ≤ s.kind ∧ s.kind ≤ 14) (w : World) : Calls Tryz.prog 28 #[.agg (saidC s)] w fun e w' => e = .returned (.agg (saidC (nmd s s.kind))) ∧ Later w w' := by
  have hK : s.kind = 1 ∨ s.kind = 2 ∨ s.kind = 3 ∨ s.kind = 4 ∨ s.kind = 5 ∨ s.kind = 6 ∨ s.kind = 7 ∨ s.kind = 8 ∨ s.kind = 9 ∨ s.kind = 10 ∨ s.kind = 11 ∨ s.kind = 12 ∨ s.kind = 13 ∨ s.kind = 14 := by omega
  rcases hK with h | h | h | h | h | h | h | h | h | h | h | h | h | h
  · rw [h]; exact named1 s hs h w
  · rw [h]; exact named2 s hs h w
  · rw [h]; exact named3 s hs h w
  · rw [h]; exact named4 s hs h w
  · rw [h]; exact named5 s hs h w
  · rw [h]; exact named6 s hs h w
  · rw [h]; exact named7 s hs h w
  · rw [h]; exact named8 s hs h w
  · rw [h]; exact named9 s hs h w
  · rw [h]; exact named10 s hs h w
  · rw [h]; exact named11 s hs h w
  · rw [h]; exact named12 s hs h w
  · rw [h]; exact named13 s hs h w
  · rw [h]; exact named14 s hs h w
end Go.Proofs.YtcajhdmppfiaeaaGreat
