/- Walks, msgs: Body of what may be said. -/
import Derived.Test.YtcajhdmppfiaeaaGreatGk18
set_option linter.unusedVariables false
set_option linter.unusedSimpArgs false
namespace Go.Proofs.YtcajhdmppfiaeaaGreat
open Go.RowKit Ms
/-- What the loop that lays keeps. -/
structure LLoop (w wl : World) (gw g : Nat) (fs : List Fld) (s : Said) (k : Nat) (wr : World) : Prop where
  wrr : ∃ r, IsWr wr gw r (Wr.bytes s.kind.toNat ++ Ms.laid (fs.take k) s) ∧ ∀ k, r = some k → w.heap.size ≤ k
  row : Row wr g 29 (saidC s)
  kt : KT wl wr
  below : Below w.heap.size w wr
set_option maxRecDepth 100000 in
set_option maxHeartbeats 4000000 in
theorem mbody_yes (s : Said) (hs : s.wf) (w : World) (hr : Ms.right s = true) : Calls Tryz.prog 10 #[.agg (saidC s)] w fun e w' => ∃ v, e = .returned (.tuple #[v, .int .i64 0]) ∧ Own 5 w' w.heap.size v (body s) ∧ Below w.heap.size w w' := by
  have k1 := Row.new w 29 (saidC s)
  have hb := below_new w (.cells (saidC s) 29)
  have hbx := boxSaid hs w
  have he : bodyE s = 0 := by unfold bodyE; rw [hr]; rfl
  have hro := right_route hr
  obtain ⟨hkk, _⟩ := right_facts hr
  have HLAY := Lib.hid (right_lay hr)
  obtain ⟨bd, hbd⟩ : ∃ l, body s = l := ⟨_, rfl⟩
  rw [hbd]
  have HBD := Lib.hid hbd
  clear hbd
  go_enter Tryz.func10, Tryz.ntmps10
  go_upto_region 1 with fail
  obtain ⟨g, hg⟩ : ∃ q, q = w.heap.size := ⟨_, rfl⟩
  rw [← hg] at k1 ⊢
  have hgw : w.heap.size ≤ g := by rw [hg]; exact Nat.le_refl _
  clear hbx hg
  generalize w.alloc (.cells (saidC s) 29) = w1 at *
  have hld := loadSaid hs k1
  have hck := mcheck_any s hs (by omega) w1
  rw [he] at hck
  have HB := Lib.hid hb
  clear hb he hr
  refine wp_region_lit ?_
  refine wpList_load rfl 29 (.tmp 1) rfl (.pointer (some ⟨g, 0, none⟩)) rfl hld ?_
  clear hld
  go_upto_region 4 with (first
    | (go_at_call 13; refine hck.mono ?_; clear hck; rintro e w2 ⟨rfl, hL2⟩)
    | fail)
  have k2 := k1.later hL2
  have hb2 : Below w.heap.size w w2 := HB.out.trans (hL2.below.mono HB.out.size)
  clear k1 HB hL2
  have hnew := new_any w2
  have HNEW := Lib.hid hnew
  clear hnew
  go_upto_region 5 with (first
    | (go_at_call 24; refine HNEW.out.mono ?_; rintro e w3 ⟨rfl, hwr, hL3, hlt3⟩)
    | fail)
  have k3 := k2.later hL3
  have hb3 : Below w.heap.size w w3 := hb2.trans (hL3.below.mono hb2.size)
  have hg2 := k2.lt
  obtain ⟨gw, hgw3⟩ : ∃ q, q = w2.heap.size := ⟨_, rfl⟩
  have hgwB : w.heap.size ≤ gw := by rw [hgw3]; exact hb2.size
  rw [← hgw3] at hwr hlt3 hg2 ⊢
  clear HNEW hL3 k2 hb2 hgw3
  obtain ⟨c, hcn⟩ : ∃ c : Nat, s.kind = (c : Int) := ⟨s.kind.toNat, by omega⟩
  have c0 : w3.cell? ⟨g, 0, none⟩ = some (.int .i64 (c : Int)) := (k3.cell 0).trans ((saidC_kind hs).trans (by rw [hcn]))
  have hL : Later w3 (w3.alloc (.cells #[numV (c : Int)] 2)) := (Later.refl w3).alloc _
  have hnum := wNumber_any gw none [] (some ⟨w3.heap.size, 0, none⟩) 1 1 [(c : Int)] _ rfl (by decide) (by decide) (RdV.row (Row.new w3 2 #[numV (c : Int)])) (fun b o e _ => by injection e with e; injection e with e _; exact ⟨by omega, by simp⟩) (hwr.later hL)
  have hnw : [(c : Int)].any Wr.wrong = false := by
    simp [Wr.wrong]
    omega
  have hnb : [] ++ Wr.nums [(c : Int)] = Wr.bytes s.kind.toNat := by rw [hcn]; simp [Wr.nums, Wr.nb_nat]
  rw [hnb] at hnum
  have k4 := k3.later hL
  have hb4 : Below w.heap.size w (w3.alloc (.cells #[numV (c : Int)] 2)) := hb3.trans (hL.below.mono hb3.size)
  have hwr4 := hwr.later hL
  have HNUM := Lib.hid hnum
  have HNW := Lib.hid hnw
  clear hnum hnw hnb hL k3 hb3 hwr
  go_upto_region 6 with (first
    | (go_at_call 25; refine HNUM.out.mono ?_; rintro e w4 (⟨h, _⟩ | ⟨_, rfl, r, hw4, hwt⟩); · (rw [HNW.out] at h; cases h))
    | fail)
  have k5 := Row.wrote hwr4 hwt k4 (by decide) (by decide)
  obtain ⟨hb5, hr5⟩ := below_wrote hb4 hb4.size hgwB (fun k e => by cases e) hwt
  clear HNUM HNW hwt hwr4 k4 hb4 c0 hlt3
  obtain ⟨kd, hkd⟩ : ∃ z, s.kind = z := ⟨_, rfl⟩
  have k5k := saidC_kind hs
  rw [hkd] at k5k hcn
  refine wp_region_list [Pr.kinds, Pr.eq (.pointer (some ⟨g, 0, none⟩)), Pr.eq (.int .i64 kd), Pr.kindv kd, Pr.fsl kd, Pr.eq (.int .i64 ((flds kd).length : Int)), Pr.eq (.int .i64 0)] (by kernel_rfl) (by kernel_rfl) (by kernel_rfl) (by kernel_rfl) ⟨?_, ?_, ?_, ?_, ?_, ?_, ?_, trivial⟩ ?_
  · intro ac W hL he; refine stepOk_want rfl ?_; exact op_callF (vs := #[]) rfl (by simp only [List.map_toArray, List.map_nil]) (enters_of Tryz.func26 (by kernel_rfl) rfl) ((kinds_any W).mono fun e W' ⟨m, he', hk', hb', _⟩ => ⟨_, he', hb', m, rfl, hk'⟩)
  · exact fun ac W hL he => stepOk_want rfl (op_fieldAddr rfl (he.keep (.tmp 1) (by kernel_rfl)) fieldS0 rfl)
  · exact fun ac W hL he => stepOk_want rfl (op_load rfl (he.get 1 20 (by kernel_rfl) rfl) (loadKindF (((k5.later hL).cell 0).trans k5k)) rfl)
  · intro ac W hL he; refine stepOk_want rfl ?_; obtain ⟨m, e11, hK⟩ : ∃ m, ac.eval (.tmp 19) = .map (some m) ∧ KindsAt W m := he.get 0 19 (by kernel_rfl) rfl; have e13 : ac.eval (.tmp 21) = .int .i64 kd := he.get 2 21 (by kernel_rfl) rfl; obtain ⟨A, hP, _, hr⟩ := kinds_look hK kd; exact op_lookup rfl e11 e13 (hr W rfl) ⟨A, rfl, hP⟩
  · intro ac W hL he; refine stepOk_want rfl ?_; obtain ⟨A, e22, hP⟩ : ∃ A, ac.eval (.tmp 22) = kindV kd A ∧ RdP W A (flds kd) := he.get 3 22 (by kernel_rfl) rfl; exact op_field rfl e22 (fieldKind2 kd A W) ⟨A, rfl, hP⟩
  · intro ac W hL he; refine stepOk_want rfl ?_; obtain ⟨A, e23, hP⟩ : ∃ A, ac.eval (.tmp 23) = .slice A (flds kd).length (flds kd).length ∧ RdP W A (flds kd) := he.get 4 23 (by kernel_rfl) rfl; exact op_len Tryz.underlying69 rfl e23 rfl
  · exact fun ac W hL he => stepOk_want rfl (op_move rfl rfl)
  intro xs W hL hx
  obtain ⟨A, v4, hP⟩ : ∃ A, xs 4 = .slice A (flds kd).length (flds kd).length ∧ RdP W A (flds kd) := hx 4 (by decide)
  have v5 : xs 5 = .int .i64 ((flds kd).length : Int) := hx 5 (by decide)
  have v6 : xs 6 = .int .i64 0 := hx 6 (by decide)
  simp only [putL, Nat.reduceAdd, Act.put, List.setIfInBounds_toArray, List.set_cons_succ, List.set_cons_zero]
  rw [v4, v5, v6]
  have hkW := k5.later hL
  have hwW := hw4.later hL
  have hbW := hb5.trans (hL.below.mono hb5.size)
  clear hx v4 v5 v6 k5 hw4 hb5 hL k5k
  generalize xs 0 = y0
  generalize xs 1 = y1
  generalize xs 2 = y2
  generalize xs 3 = y3
  rw [hkd] at HLAY
  obtain ⟨fs, hfs⟩ : ∃ fs, flds kd = fs := ⟨_, rfl⟩
  have hbody : body s = Wr.bytes s.kind.toNat ++ Ms.laid fs s := by unfold body; rw [hkd, hfs]
  have hok := (flds_ok kd).1
  have hfh := flds_hash kd
  have hfl := flds_len kd
  rw [hfs] at hP HLAY hok hfh hfl ⊢
  have HBODY := Lib.hid hbody
  have HFH := Lib.hid hfh
  clear hbody hfs hfh hok
  obtain ⟨n, hn⟩ : ∃ n, fs.length = n := ⟨_, rfl⟩
  rw [hn] at hfl ⊢
  have HN := Lib.hid hn
  have HKD := Lib.hid hkd
  clear hn hkd
  have hL0 : LLoop w W gw g fs s 0 W := ⟨⟨r, by simpa [Ms.laid] using hwW, hr5⟩, hkW, KT.refl _, hbW⟩
  have HP := Lib.hid hP
  clear hP hkW hwW hbW hr5
  go_wp2_with fail
  go_loopw [25] (fun t wr => ∃ k : Nat, k ≤ n ∧ t = .int .i64 (k : Int) ∧ LLoop w W gw g fs s k wr) (fun t _ => n - (intOf t).toNat)
  case atStart => exact ⟨0, by omega, rfl, hL0⟩
  case round =>
    obtain ⟨k, hk, rfl, hz⟩ := hrel
    obtain ⟨⟨r1, hw1, hr1⟩, hrow, hkt, hbel⟩ := hz
    by_cases hlt : k < n
    · have hd : decide ((k : Int) < (n : Int)) = true := decide_eq_true (by omega)
      have hd' : decide (k < n) = true := decide_eq_true hlt
      have hkl : k < fs.length := by rw [HN.out]; exact hlt
      obtain ⟨bP, pc, hA, hpc, hldp⟩ := (HP.out.kt hkt).part hkl
      subst hA
      have hsn : fs.take (k + 1) = fs.take k ++ [fs[k]] := List.take_succ_eq_append_getElem hkl
      have hlo := HLAY.out _ (List.getElem_mem hkl)
      have hll := laid_le hs hro (fs.take k) (fun f hf => HFH.out f (List.mem_of_mem_take hf))
      have hb9 := Wr.bytes_le s.kind.toNat
      have hl0 : (Wr.bytes s.kind.toNat ++ Ms.laid (fs.take k) s).length ≤ 100000000 := by
        rw [List.length_append]
        rw [List.length_take] at hll
        omega
      have HSN := Lib.hid hsn
      have HL0 := Lib.hid hl0
      clear hsn hl0 hll hb9
      generalize fs[k] = f at *
      obtain ⟨w5, hst, hpa, hL5⟩ := newPart wr hpc
      have HLP := Lib.hid hldp
      clear hldp
      obtain ⟨cs4, hr4, hpc4⟩ := hpa
      have hrow5 := hrow.later hL5
      have hw5 := hw1.later hL5
      obtain ⟨F, caps, hF, hE, hcall⟩ := lay_any f cs4 gw r1 _ g s w5 hs hpc4 hlo HL0.out hw5 hrow5
      have c27 : w5.cell? ⟨wr.heap.size, 0, none⟩ = some (.func (.func F) #[] caps) := (hr4.cell 0).trans hF
      have HCALL := Lib.hid hcall
      have HE := Lib.hid hE
      have hbel5 : Below w.heap.size w w5 := hbel.trans (hL5.below.mono hbel.size)
      have hkt5 : KT W w5 := hkt.trans (fun b T cs _ h => h.later hL5)
      have HKT5 := Lib.hid hkt5
      clear hcall hE hF hpc4 hr4 hL5 hrow hpc hkt hbel hw1 hkt5
      have hldp := HLP.out
      go_upto_region 9 with (first
        | (guard_target =~ wpList _ _ _ (_ :: _) _ _; refine wpList_load rfl 78 (.tmp 27) rfl (.pointer (some ⟨bP, k * 3, none⟩)) rfl hldp ?_)
        | (with_reducible refine wpList_alloc rfl 78 rfl (allocPart _) ?_)
        | (guard_target =~ wpList _ _ _ (_ :: _) _ _; refine wpList_store rfl 78 (.tmp 7) (.tmp 28) rfl (.pointer (some ⟨wr.heap.size, 0, none⟩)) (.agg pc) rfl rfl hst ?_)
        | fail)
      clear hldp hst
      go_wp2_with (first
        | (guard_target =~ wpList _ _ _ (_ :: _) _ _; refine wpList_callV rfl (.tmp 30) #[.tmp 31, .tmp 1] _ rfl (f := F) (bound := caps) (vs := #[.pointer (some ⟨gw, 0, none⟩), .pointer (some ⟨g, 0, none⟩)]) rfl (by simp only [List.map_toArray, List.map_cons, List.map_nil]; rfl) HE.out rfl ?_; refine HCALL.out.mono ?_; rintro e w6 ⟨rfl, r', hw6, hwt⟩; refine .inl ⟨_, rfl, ?_⟩)
        | fail)
      go_roundw
      case rel =>
        obtain ⟨hb6, hr6⟩ := below_wrote hbel5 hbel5.size hgwB hr1 hwt
        exact ⟨k + 1, by omega, by go_num, ⟨⟨r', by rw [HSN.out, laid_snoc, ← List.append_assoc]; exact hw6, hr6⟩, Row.wrote hw5 hwt hrow5 (by decide) (by decide), HKT5.out.trans (KT.wrote hw5 hwt), hb6⟩⟩
      case measure => simp [intOf]; omega
    · obtain rfl : k = n := by omega
      have hd : decide ((k : Int) < (k : Int)) = false := decide_eq_false (by omega)
      have hd' : decide (k < k) = false := decide_eq_false (by omega)
      rw [List.take_of_length_le (by rw [HN.out]; exact Nat.le_refl _), ← HBODY.out, HBD.out] at hw1
      have hln : bd.length ≤ 140737488355328 := by
        rw [← HBD.out, HBODY.out, List.length_append]
        have h1 := Wr.bytes_le s.kind.toNat
        have h2 := laid_le hs hro fs HFH.out
        have h3 := HN.out
        omega
      have hall := all_any gw r1 bd wr hln hw1
      have HALL := Lib.hid hall
      clear hall hln
      go_wp2_with (first
        | (go_at_call 27; refine HALL.out.mono ?_; rintro e w6 ⟨v, rfl, hown, hL6⟩)
        | fail)
      go_ret2
      exact ⟨v, rfl, hown.mono hbel.size, hbel.trans (hL6.below.mono hbel.size)⟩
theorem mbody_any (s : Said) (hs : s.wf) (hm : s.route.length ≤ 9223372036854775807) (w : World) : Calls Tryz.prog 10 #[.agg (saidC s)] w fun e w' => ∃ v, e = .returned (.tuple #[v, .int .i64 (bodyE s)]) ∧ Own 5 w' w.heap.size v (bodyR s) ∧ Below w.heap.size w w' := by
  unfold bodyE bodyR
  cases h : Ms.right s
  · exact (mbody_no s hs hm w h).mono fun e w' ⟨h1, h2⟩ => ⟨_, h1, Own.nil _ _ _, h2⟩
  · exact mbody_yes s hs w h
end Go.Proofs.YtcajhdmppfiaeaaGreat
