/- Walks, msgs: Check. -/
import Derived.Test.YtcajhdmppfiaeaaGreatGk15
set_option linter.unusedVariables false
set_option linter.unusedSimpArgs false
namespace Go.Proofs.YtcajhdmppfiaeaaGreat
open Go.RowKit Ms
theorem buildSaidK (k : Int) (w : World) : (Instr.build 29 #[(0, .int .i64 k)]).run Tryz.prog w = .ok (.agg (saidC (Ms.blank k))) w := by kernel_rfl
theorem buildNums4 (a b c d : Int) (w : World) : (Instr.buildSlice 85 4 #[(0, .int .i64 a), (1, .int .i64 b), (2, .int .i64 c), (3, .int .i64 d)]).run Tryz.prog w = .ok (.slice (some ⟨w.heap.size, 0, none⟩) 4 4) (w.alloc (.cells #[.int .i64 a, .int .i64 b, .int .i64 c, .int .i64 d] 2)) := by kernel_rfl
theorem flds_len (k : Int) : (flds k).length ≤ 9 := by
  unfold flds
  by_cases h1 : k = 1
  · rw [if_pos h1]; decide
  rw [if_neg h1]
  by_cases h2 : k = 2
  · rw [if_pos h2]; decide
  rw [if_neg h2]
  by_cases h3 : k = 3
  · rw [if_pos h3]; decide
  rw [if_neg h3]
  by_cases h4 : k = 4
  · rw [if_pos h4]; decide
  rw [if_neg h4]
  by_cases h6 : k = 6
  · rw [if_pos h6]; decide
  rw [if_neg h6]
  by_cases h7 : k = 7
  · rw [if_pos h7]; decide
  rw [if_neg h7]
  by_cases h8 : k = 8
  · rw [if_pos h8]; decide
  rw [if_neg h8]
  by_cases h9 : k = 9
  · rw [if_pos h9]; decide
  rw [if_neg h9]
  by_cases h10 : k = 10
  · rw [if_pos h10]; decide
  rw [if_neg h10]
  by_cases h11 : k = 11
  · rw [if_pos h11]; decide
  rw [if_neg h11]
  by_cases h13 : k = 13
  · rw [if_pos h13]; decide
  rw [if_neg h13]
  by_cases h14 : k = 14
  · rw [if_pos h14]; decide
  rw [if_neg h14]
  decide
/-- A part among parts. -/
theorem RdP.part {W : World} {A : Option Addr} {fs : List Fld} (h : RdP W A fs) {k : Nat} (hk : k < fs.length) : ∃ b cs, A = some ⟨b, 0, none⟩ ∧ PartC W cs fs[k] ∧ (Instr.loadAt 78 (.pointer (some ⟨b, k * 3, none⟩))).run Tryz.prog W = .ok (.agg cs) W := by
  obtain ⟨b, xs, e, hr, hc⟩ := h (by intro e; subst e; cases hk)
  obtain ⟨cs, h1, h2⟩ := hc k hk
  obtain ⟨c0, c1, c2, rfl⟩ := h1.size
  exact ⟨b, _, e, h1, run_load_part hr (fun j hj => by
    have hj3 : j < 3 := hj
    rw [Array.getElem?_eq_getElem hj]
    exact h2 j _ (Array.getElem?_eq_getElem hj)) Tryz.underlying78 rfl infoPart⟩
/-- What the loop that lets go keeps. -/
structure ZLoop (wl : World) (g5 : Nat) (fs : List Fld) (s : Said) (k : Nat) (wr : World) : Prop where
  row : Row wr g5 29 (saidC (zeroed (fs.take k) s))
  same : Same (fun x => x < wl.heap.size ∧ x ≠ g5) wl wr
set_option maxRecDepth 100000 in
set_option maxHeartbeats 4000000 in
theorem mcheck_any (s : Said) (hs : s.wf) (hm : s.route.length ≤ 9223372036854775807) (w : World) : Calls Tryz.prog 13 #[.agg (saidC s)] w fun e w' => e = .returned (.int .i64 (bodyE s)) ∧ Later w w' := by
  have k1 := Row.new w 29 (saidC s)
  have hb := below_new w (.cells (saidC s) 29)
  have hbx := boxSaid hs w
  obtain ⟨b0, h00⟩ : ∃ b, bodyE s = b := ⟨_, rfl⟩
  rw [h00]
  have HOP := Lib.hid h00
  clear h00
  go_enter Tryz.func13, Tryz.ntmps13
  go_upto_region 1 with fail
  obtain ⟨g, hg⟩ : ∃ q, q = w.heap.size := ⟨_, rfl⟩
  rw [← hg] at k1 ⊢
  clear hbx hg
  generalize w.alloc (.cells (saidC s) 29) = w1 at *
  refine (wpIn_wide (n := 0)).1 ?_
  refine wpIn_region_lastX wide_wide (EC w1.heap.size) (fun a b => Below a.heap.size a b) (EC.refl _) (fun i W W' h hE => EC.below i W W' h hE) ((Below.refl _ w1).drew) (VC s.kind g w1.heap.size) (VC.st _ (by kernel_rfl)) (by kernel_rfl) (by kernel_rfl) (by kernel_rfl) (by kernel_rfl) (by kernel_rfl) (by kernel_rfl) rfl ⟨?_, ?_, ?_, ?_, ?_, ?_, ?_, ?_, ?_, trivial⟩ ?_
  · intro a W xs hG he
    exact plainX _ 0 (by decide) rfl (op_callF (vs := #[]) rfl (by simp only [List.map_toArray, List.map_nil]) (enters_of Tryz.func26 (by kernel_rfl) rfl) ((kinds_any W).mono fun e W' ⟨m, he', hk', hb', _⟩ => ⟨_, he', hb', m, upd_self _ _ _, hk'⟩))
  · intro a W xs hG he
    exact plainX _ 1 (by decide) rfl (op_fieldAddr rfl (he.keep (.tmp 1) (by kernel_rfl)) fieldS0 (upd_self _ _ _))
  · intro a W xs hG he
    have v1 : xs 1 = .pointer (some ⟨g, 0, none⟩) := he.get 1 (by decide) (by kernel_rfl)
    exact plainX _ 2 (by decide) rfl (op_load rfl ((he.val 1 12 (by kernel_rfl) rfl).trans v1) (loadKindF (((k1.later hG).cell 0).trans (saidC_kind hs))) (upd_self _ _ _))
  · intro a W xs hG he
    obtain ⟨m, v0, hK⟩ : ∃ m, xs 0 = .map (some m) ∧ KindsAt W m := he.get 0 (by decide) (by kernel_rfl)
    have v2 : xs 2 = .int .i64 s.kind := he.get 2 (by decide) (by kernel_rfl)
    obtain ⟨A, hP, hr, _⟩ := kinds_look hK s.kind
    exact plainX _ 3 (by decide) rfl (op_lookup rfl ((he.val 0 11 (by kernel_rfl) rfl).trans v0) ((he.val 2 13 (by kernel_rfl) rfl).trans v2) (hr W rfl) ⟨A, upd_self _ _ _, hP⟩)
  · intro a W xs hG he
    obtain ⟨A, v3, hP⟩ : ∃ A, xs 3 = .tuple #[kindV s.kind A, .bool (isKind s.kind)] ∧ RdP W A (flds s.kind) := he.get 3 (by decide) (by kernel_rfl)
    exact plainX _ 4 (by decide) rfl (op_move rfl ⟨A, (upd_self _ _ _).trans ((he.val 3 14 (by kernel_rfl) rfl).trans v3), hP⟩)
  · intro a W xs hG he
    obtain ⟨A, v4, hP⟩ : ∃ A, xs 4 = .tuple #[kindV s.kind A, .bool (isKind s.kind)] ∧ RdP W A (flds s.kind) := he.get 4 (by decide) (by kernel_rfl)
    exact plainX _ 5 (by decide) rfl (op_extract rfl ((he.val 4 10 (by kernel_rfl) rfl).trans v4) rfl ⟨A, upd_self _ _ _, hP⟩)
  · intro a W xs hG he
    obtain ⟨A, v4, hP⟩ : ∃ A, xs 4 = .tuple #[kindV s.kind A, .bool (isKind s.kind)] ∧ RdP W A (flds s.kind) := he.get 4 (by decide) (by kernel_rfl)
    exact plainX _ 6 (by decide) rfl (op_extract rfl ((he.val 4 10 (by kernel_rfl) rfl).trans v4) rfl (upd_self _ _ _))
  · intro a W xs hG he
    exact plainX _ 7 (by decide) rfl (op_alloc rfl (allocKind W) ((Later.refl W).alloc _) ⟨_, _, upd_self _ _ _, Row.new W _ _, rfl, hG.size⟩)
  · intro a W xs hG he
    obtain ⟨b, cs0, v7, hr0, hz0, hB⟩ : ∃ b cs, xs 7 = .pointer (some ⟨b, 0, none⟩) ∧ Row W b 71 cs ∧ cs.size = 3 ∧ w1.heap.size ≤ b := he.get 7 (by decide) (by kernel_rfl)
    obtain ⟨A, v5, hP⟩ : ∃ A, xs 5 = kindV s.kind A ∧ RdP W A (flds s.kind) := he.get 5 (by decide) (by kernel_rfl)
    obtain ⟨W', cs, hst, hcs, hz, hr', hgr⟩ := putKind (k := s.kind) (A := A) hr0 hz0
    have hK : LaterK w1.heap.size W W' := LaterK.stored hB hr' hz ⟨_, hr0⟩ hgr
    refine stepOkE_want rfl (op_storeK rfl ((he.val 7 3 (by kernel_rfl) rfl).trans v7) ((he.val 5 15 (by kernel_rfl) rfl).trans v5) hst ⟨undef, rfl, ?_, ?_⟩)
    · unfold EC; rw [if_pos rfl]; exact hK
    · exact ⟨b, A, cs, (upd_ne xs _ (by decide)).trans v7, hcs, hP.kt hK.kt, hB, hr'⟩
  intro xs W hG hx hk hgt
  have e3 := hgt 7 3 (by decide) (by kernel_rfl)
  have e16 := hgt 6 16 (by decide) (by kernel_rfl)
  have v6 : xs 6 = .bool (isKind s.kind) := hx 6 (by decide)
  rw [v6] at e16
  obtain ⟨b, A, cs, v7, hcs, hP, hB, hbr⟩ : ∃ b A cs, xs 7 = .pointer (some ⟨b, 0, none⟩) ∧ kindV s.kind A = .agg cs ∧ RdP W A (flds s.kind) ∧ w1.heap.size ≤ b ∧ Row W b 71 cs := hx 8 (by decide)
  refine last_assign rfl e16 ?_
  have k2 := k1.later hG
  have hbW : Later w W := Later.step hb hG
  obtain ⟨cs', ecs, hz, h1, hcs2, hcs1, _⟩ := kindV_one s.kind A
  have : cs' = cs := by
    have := ecs.symm.trans hcs
    injection this
  subst this
  have c2 : W.cell? ⟨b, 2, none⟩ = some (.slice A (flds s.kind).length (flds s.kind).length) := (hbr.cell 2).trans hcs2
  have hgb : g < b := by have := k1.lt; omega
  simp only [initL, lastL, putL, Nat.reduceAdd, Act.put, List.setIfInBounds_toArray, List.set_cons_succ, List.set_cons_zero]
  rw [v7]
  clear hx hk hgt e3 e16 v7 v6 hB
  have hzero : ∀ a b : World, True := fun _ _ => trivial
  clear hzero
  generalize xs 4 = y4
  generalize xs 0 = y0
  generalize xs 1 = y1
  generalize xs 2 = y2
  generalize xs 3 = y3
  generalize xs 5 = y5
  generalize xs 6 = y6
  have hld := loadSaid hs k2
  obtain ⟨w3, hst, k5, hL3⟩ := newSaid W hs
  go_upto_region 3 with (first
    | (guard_target =~ wpList _ _ _ (_ :: _) _ _; refine wpList_load rfl 29 (.tmp 1) rfl (.pointer (some ⟨g, 0, none⟩)) rfl hld ?_)
    | (with_reducible refine wpList_alloc rfl 29 rfl (allocSaid _) ?_)
    | (guard_target =~ wpList _ _ _ (_ :: _) _ _; refine wpList_store rfl 29 (.tmp 5) (.tmp 17) rfl (.pointer (some ⟨W.heap.size, 0, none⟩)) (.agg (saidC s)) rfl rfl hst ?_)
    | fail)
  have hbl := hbr.lt
  obtain ⟨q, hq⟩ : ∃ q, q = W.heap.size := ⟨_, rfl⟩
  rw [← hq] at k5 hbl ⊢
  have k3 := k2.later hL3
  have hb3 := hbW.step hL3
  have hbr3 := hbr.later hL3
  have hP3 := hP.m hL3.m
  have c23 : w3.cell? ⟨b, 2, none⟩ = some (.slice A (flds s.kind).length (flds s.kind).length) := (hbr3.cell 2).trans hcs2
  have hqw : w.heap.size ≤ q := by rw [hq]; exact hbW.size
  have hqs := k5.lt
  have hqs' : q ≤ w3.heap.size := Nat.le_of_lt hqs
  clear hst hld hq k2 hbr hP c2 hbW hL3 k1 hb hG
  obtain ⟨fs, hfs⟩ : ∃ fs, flds s.kind = fs := ⟨_, rfl⟩
  rw [hfs] at c23 hP3 hcs2
  have HFS := Lib.hid hfs
  clear hfs
  obtain ⟨n, hn⟩ : ∃ n, fs.length = n := ⟨_, rfl⟩
  rw [hn] at c23
  have hnm : n ≤ 9 := by
    rw [← hn, ← HFS.out]
    exact flds_len _
  have HN := Lib.hid hn
  clear hn
  have hL0 : ZLoop w3 q fs s 0 w3 := ⟨by simpa [zeroed] using k5, Same.refl _ _⟩
  have HP3 := Lib.hid hP3
  have HB3 := Lib.hid hb3
  clear hP3 hb3
  have HCS := Lib.hid (And.intro hcs1 (And.intro hz ecs))
  clear hcs1 hz ecs hcs hcs2 h1
  go_wp2_with fail
  go_loopw [21] (fun t wr => ∃ k : Nat, k ≤ n ∧ t = .int .i64 (k : Int) ∧ ZLoop w3 q fs s k wr) (fun t _ => n - (intOf t).toNat)
  case atStart => exact ⟨0, by omega, rfl, hL0⟩
  case round =>
    obtain ⟨k, hk, rfl, hz⟩ := hrel
    obtain ⟨hrow, hsame⟩ := hz
    by_cases hlt : k < n
    · have hd : decide ((k : Int) < (n : Int)) = true := decide_eq_true (by omega)
      have hd' : decide (k < n) = true := decide_eq_true hlt
      have hkl : k < fs.length := by rw [HN.out]; exact hlt
      have hKT := kt_same k5 hsame
      obtain ⟨bP, pc, hA, hpc, hldp⟩ := (HP3.out.kt hKT).part hkl
      subst hA
      have hsn : fs.take (k + 1) = fs.take k ++ [fs[k]] := List.take_succ_eq_append_getElem hkl
      have HSN := Lib.hid hsn
      clear hsn
      generalize fs[k] = f at *
      obtain ⟨w4, hst, hpa, hL4⟩ := newPart wr hpc
      have HLP := Lib.hid hldp
      clear hldp
      obtain ⟨cs4, hr4, hpc4⟩ := hpa
      have hrow4 := hrow.later hL4
      obtain ⟨F, caps, hF, hE, hcall⟩ := zero_any f cs4 q (zeroed (fs.take k) s) w4 (zeroed_wf _ hs) hpc4 hrow4
      have c27 : w4.cell? ⟨wr.heap.size, 2, none⟩ = some (.func (.func F) #[] caps) := (hr4.cell 2).trans hF
      have HCALL := Lib.hid hcall
      have HE := Lib.hid hE
      have hss : w3.heap.size ≤ wr.heap.size := hsame.size
      have HSAME := Lib.hid (hsame.trans ((Same.of_below hL4.below).mono fun x h => Nat.lt_of_lt_of_le h.1 hss))
      have hss4 : w3.heap.size ≤ w4.heap.size := Nat.le_trans hss hL4.size
      clear hcall hE hF hrow4 hpc4 hr4 hL4 hsame hrow hKT hpc
      have hldp := HLP.out
      go_upto_region 6 with (first
        | (guard_target =~ wpList _ _ _ (_ :: _) _ _; refine wpList_load rfl 78 (.tmp 23) rfl (.pointer (some ⟨bP, k * 3, none⟩)) rfl hldp ?_)
        | (with_reducible refine wpList_alloc rfl 78 rfl (allocPart _) ?_)
        | (guard_target =~ wpList _ _ _ (_ :: _) _ _; refine wpList_store rfl 78 (.tmp 7) (.tmp 24) rfl (.pointer (some ⟨wr.heap.size, 0, none⟩)) (.agg pc) rfl rfl hst ?_)
        | fail)
      clear hldp hst
      go_wp2_with (first
        | (guard_target =~ wpList _ _ _ (_ :: _) _ _; refine wpList_callV rfl (.tmp 26) #[.tmp 5] _ rfl (f := F) (bound := caps) (vs := #[.pointer (some ⟨q, 0, none⟩)]) rfl (by simp only [List.map_toArray, List.map_cons, List.map_nil]; rfl) HE.out rfl ?_; refine HCALL.out.mono ?_; rintro e w5 ⟨rfl, hr5, hg5⟩; refine .inl ⟨_, rfl, ?_⟩)
        | fail)
      go_roundw
      case rel => exact ⟨k + 1, by omega, by go_num, ⟨by rw [HSN.out, zeroed_snoc]; exact hr5, HSAME.out.trans ((Same.of_grown hg5).mono fun x h => ⟨Nat.lt_of_lt_of_le h.1 hss4, fun e => h.2 (Option.some.inj e)⟩)⟩⟩
      case measure => simp [intOf]; omega
    · obtain rfl : k = n := by omega
      have hd : decide ((k : Int) < (k : Int)) = false := decide_eq_false (by omega)
      have hd' : decide (k < k) = false := decide_eq_false (by omega)
      rw [List.take_of_length_le (by rw [HN.out]; exact Nat.le_refl _)] at hrow
      have k4 := k3.same hsame ⟨k3.lt, by omega⟩
      have kb4 := hbr3.same hsame ⟨hbr3.lt, by omega⟩
      have hb4 : Below w.heap.size w wr := HB3.out.trans ((Same.below (hsame.mono fun x h => ⟨Nat.lt_of_lt_of_le h (Nat.le_trans hqw hqs'), by omega⟩)))
      have c0 : wr.cell? ⟨g, 296, none⟩ = some (.int .i64 s.id) := (k4.cell _).trans (saidC_n hs 7 (by decide))
      have c1 : wr.cell? ⟨g, 297, none⟩ = some (.int .i64 s.number) := (k4.cell _).trans (saidC_n hs 8 (by decide))
      have c2 : wr.cell? ⟨g, 298, none⟩ = some (.int .i64 s.index) := (k4.cell _).trans (saidC_n hs 9 (by decide))
      have c3 : wr.cell? ⟨g, 299, none⟩ = some (.int .i64 s.expiry) := (k4.cell _).trans (saidC_n hs 10 (by decide))
      have hL5 : Later wr (wr.alloc (.cells #[.int .i64 s.id, .int .i64 s.number, .int .i64 s.index, .int .i64 s.expiry] 2)) := (Later.refl wr).alloc _
      have hnr : RdV (wr.alloc (.cells #[.int .i64 s.id, .int .i64 s.number, .int .i64 s.index, .int .i64 s.expiry] 2)) (some ⟨wr.heap.size, 0, none⟩) ([s.id, s.number, s.index, s.expiry].map numV) := RdV.row (Row.new wr 2 _)
      go_upto_region 9 with fail
      have hrow5 := hrow.later hL5
      have k5' := k4.later hL5
      have kb5 := kb4.later hL5
      have hb5 := hb4.trans (hL5.below.mono hb4.size)
      obtain ⟨qn, hqn⟩ : ∃ x, x = wr.heap.size := ⟨_, rfl⟩
      rw [← hqn] at hnr ⊢
      clear c0 c1 c2 c3 hrow k4 kb4 hb4 hL5 hqn hsame hL0 k3 hbr3 c23 k5 HP3 HB3
      generalize wr.alloc (.cells #[.int .i64 s.id, .int .i64 s.number, .int .i64 s.index, .int .i64 s.expiry] 2) = w5 at *
      have hct := containsF_any 33 #[] (fun z => !within z) (some ⟨qn, 0, none⟩) 4 4 [s.id, s.number, s.index, s.expiry] w5 rfl (by decide) hnr (enters_of Tryz.func33 (by kernel_rfl) rfl) (fun z => wideFn_any z w5)
      obtain ⟨b3, hb3⟩ : ∃ x, ([s.id, s.number, s.index, s.expiry].any fun z => !within z) = x := ⟨_, rfl⟩
      rw [hb3] at hct
      have HB3 := Lib.hid hb3
      have HCT := Lib.hid hct
      clear hb3 hct hnr
      go_upto_region 10 with (first
        | (go_at_call 32; refine HCT.out.mono ?_; rintro e w6 ⟨rfl, rfl⟩)
        | fail)
      obtain ⟨b1, hb1⟩ : ∃ x, isKind s.kind = x := ⟨_, rfl⟩
      obtain ⟨b2, hb2⟩ : ∃ x, decide (zeroed fs s = Ms.blank s.kind) = x := ⟨_, rfl⟩
      obtain ⟨b4, hb4⟩ : ∃ x, amt s.amount = x := ⟨_, rfl⟩
      obtain ⟨b5, hb5'⟩ : ∃ x, specialK s.kind s = x := ⟨_, rfl⟩
      have hres : b0 = if (b1 && b2 && !b3 && b4 && b5) then 0 else 2 := by
        rw [← HOP.out, ← HB3.out, ← hb1, ← hb2, ← hb4, ← hb5', ← HFS.out, ← special_eq]
        unfold bodyE Ms.right
        simp [Bool.and_assoc]
      have HRES := Lib.hid hres
      have hc4 := kRight_any s.kind s hs hm
      rw [hb5'] at hc4
      have HC4 := Lib.hid hc4
      have hlz := loadSaid (zeroed_wf fs hs) hrow5
      have hld := loadSaid hs k5'
      have ck : w6.cell? ⟨g, 0, none⟩ = some (.int .i64 s.kind) := (k5'.cell _).trans (saidC_kind hs)
      have ca : w6.cell? ⟨g, 103, none⟩ = some (.int .i64 s.amount) := (k5'.cell _).trans (saidC_n hs 6 (by decide))
      rw [hb1]
      have hcs1 := HCS.out.1
      rw [hb1] at hcs1
      have hnq := neqSaid (zeroed_wf fs hs) (blank_wf s.kind)
      rw [hb2] at hnq
      have HNQ := Lib.hid hnq
      have HCS1 := Lib.hid hcs1
      have HB4 := Lib.hid hb4
      clear hres hc4 hb1 hb2 hb4 hb5' hnq hcs1 HCS HOP HB3 HFS
      cases b1
      · obtain rfl : b0 = 2 := by rw [HRES.out]; rfl
        go_wp2_with fail
        go_ret
        exact ⟨rfl, hb5⟩
      cases b2
      · obtain rfl : b0 = 2 := by rw [HRES.out]; rfl
        go_wp2_with (first
          | (guard_target =~ wpList _ _ _ (_ :: _) _ _; refine wpList_loadG rfl 29 (.tmp 5) rfl (.pointer (some ⟨q, 0, none⟩)) rfl hlz ?_)
          | (guard_target =~ wpList _ _ _ (_ :: _) _ _; refine wpList_buildG rfl 29 _ rfl #[(0, .int .i64 s.kind)] (by simp only [List.map_toArray, List.map_cons, List.map_nil]; rfl) (buildSaidK _ _) ?_)
          | (guard_target =~ wpList _ _ _ (_ :: _) _ _; refine wpList_binG rfl .neq 29 _ (.tmp 43) (.tmp 46) rfl (.agg (saidC (zeroed fs s))) (.agg (saidC (Ms.blank s.kind))) rfl rfl (by kernel_rfl) (HNQ.out _) ?_)
          | fail)
        go_ret
        exact ⟨rfl, hb5⟩
      cases b3
      rotate_left
      · obtain rfl : b0 = 2 := by rw [HRES.out]; rfl
        go_wp2_with (first
          | (guard_target =~ wpList _ _ _ (_ :: _) _ _; refine wpList_loadG rfl 29 (.tmp 5) rfl (.pointer (some ⟨q, 0, none⟩)) rfl hlz ?_)
          | (guard_target =~ wpList _ _ _ (_ :: _) _ _; refine wpList_buildG rfl 29 _ rfl #[(0, .int .i64 s.kind)] (by simp only [List.map_toArray, List.map_cons, List.map_nil]; rfl) (buildSaidK _ _) ?_)
          | (guard_target =~ wpList _ _ _ (_ :: _) _ _; refine wpList_binG rfl .neq 29 _ (.tmp 43) (.tmp 46) rfl (.agg (saidC (zeroed fs s))) (.agg (saidC (Ms.blank s.kind))) rfl rfl (by kernel_rfl) (HNQ.out _) ?_)
          | fail)
        go_ret
        exact ⟨rfl, hb5⟩
      have hL6 : Later w6 (w6.alloc (.cells #[numV s.amount] 2)) := (Later.refl w6).alloc _
      have HL6 := Lib.hid hL6
      clear hL6
      cases b4
      · obtain rfl : b0 = 2 := by rw [HRES.out]; rfl
        go_wp2_with (first
          | (guard_target =~ wpList _ _ _ (_ :: _) _ _; refine wpList_loadG rfl 29 (.tmp 5) rfl (.pointer (some ⟨q, 0, none⟩)) rfl hlz ?_)
          | (guard_target =~ wpList _ _ _ (_ :: _) _ _; refine wpList_buildG rfl 29 _ rfl #[(0, .int .i64 s.kind)] (by simp only [List.map_toArray, List.map_cons, List.map_nil]; rfl) (buildSaidK _ _) ?_)
          | (guard_target =~ wpList _ _ _ (_ :: _) _ _; refine wpList_binG rfl .neq 29 _ (.tmp 43) (.tmp 46) rfl (.agg (saidC (zeroed fs s))) (.agg (saidC (Ms.blank s.kind))) rfl rfl (by kernel_rfl) (HNQ.out _) ?_)
          | (go_at_call 35; refine (moneyCheck_any (some ⟨w6.heap.size, 0, none⟩) 1 s.amount _ (RdV.row (Row.new w6 2 #[numV s.amount]))).mono ?_; rintro e w7 ⟨rfl, hL7⟩; rw [HB4.out])
          | fail)
        go_ret
        exact ⟨rfl, hb5.trans ((HL6.out.step hL7).below.mono hb5.size)⟩
      have hk7 : ∀ W, Later (w6.alloc (.cells #[numV s.amount] 2)) W → Row W g 29 (saidC s) ∧ W.cell? ⟨b, 1, none⟩ = some (.func (.func (kRight s.kind)) #[] #[]) := fun W hW => ⟨k5'.later (HL6.out.step hW), ((kb5.later (HL6.out.step hW)).cell 1).trans HCS1.out⟩
      have HK7 := Lib.hid hk7
      clear hk7
      cases b5
      · obtain rfl : b0 = 2 := by rw [HRES.out]; rfl
        go_wp2_with (first
          | (guard_target =~ wpList _ _ _ (_ :: _) _ _; refine wpList_loadG rfl 29 (.tmp 5) rfl (.pointer (some ⟨q, 0, none⟩)) rfl hlz ?_)
          | (guard_target =~ wpList _ _ _ (_ :: _) _ _; refine wpList_buildG rfl 29 _ rfl #[(0, .int .i64 s.kind)] (by simp only [List.map_toArray, List.map_cons, List.map_nil]; rfl) (buildSaidK _ _) ?_)
          | (guard_target =~ wpList _ _ _ (_ :: _) _ _; refine wpList_binG rfl .neq 29 _ (.tmp 43) (.tmp 46) rfl (.agg (saidC (zeroed fs s))) (.agg (saidC (Ms.blank s.kind))) rfl rfl (by kernel_rfl) (HNQ.out _) ?_)
          | (go_at_call 35; refine (moneyCheck_any (some ⟨w6.heap.size, 0, none⟩) 1 s.amount _ (RdV.row (Row.new w6 2 #[numV s.amount]))).mono ?_; rintro e w7 ⟨rfl, hL7⟩; rw [HB4.out]; have hq7 := HK7.out w7 hL7; obtain ⟨k7, cf⟩ := hq7; have hl7 := loadSaid hs k7)
          | (guard_target =~ wpList _ _ _ (_ :: _) _ _; refine wpList_loadG rfl 29 (.tmp 1) rfl (.pointer (some ⟨g, 0, none⟩)) rfl hl7 ?_)
          | (guard_target =~ wpList _ _ _ (_ :: _) _ _; refine wpList_callVG rfl (.tmp 61) #[.tmp 62] _ rfl (f := kRight s.kind) (bound := #[]) (vs := #[.agg (saidC s)]) rfl (by simp only [List.map_toArray, List.map_cons, List.map_nil]; rfl) (kRight_enters _) rfl ?_; refine (HC4.out _).mono ?_; rintro e w8 ⟨rfl, hL8⟩; refine ⟨_, rfl, ?_⟩)
          | fail)
        go_ret
        exact ⟨rfl, hb5.trans (((HL6.out.step hL7).step hL8).below.mono hb5.size)⟩
      · obtain rfl : b0 = 0 := by rw [HRES.out]; rfl
        go_wp2_with (first
          | (guard_target =~ wpList _ _ _ (_ :: _) _ _; refine wpList_loadG rfl 29 (.tmp 5) rfl (.pointer (some ⟨q, 0, none⟩)) rfl hlz ?_)
          | (guard_target =~ wpList _ _ _ (_ :: _) _ _; refine wpList_buildG rfl 29 _ rfl #[(0, .int .i64 s.kind)] (by simp only [List.map_toArray, List.map_cons, List.map_nil]; rfl) (buildSaidK _ _) ?_)
          | (guard_target =~ wpList _ _ _ (_ :: _) _ _; refine wpList_binG rfl .neq 29 _ (.tmp 43) (.tmp 46) rfl (.agg (saidC (zeroed fs s))) (.agg (saidC (Ms.blank s.kind))) rfl rfl (by kernel_rfl) (HNQ.out _) ?_)
          | (go_at_call 35; refine (moneyCheck_any (some ⟨w6.heap.size, 0, none⟩) 1 s.amount _ (RdV.row (Row.new w6 2 #[numV s.amount]))).mono ?_; rintro e w7 ⟨rfl, hL7⟩; rw [HB4.out]; have hq7 := HK7.out w7 hL7; obtain ⟨k7, cf⟩ := hq7; have hl7 := loadSaid hs k7)
          | (guard_target =~ wpList _ _ _ (_ :: _) _ _; refine wpList_loadG rfl 29 (.tmp 1) rfl (.pointer (some ⟨g, 0, none⟩)) rfl hl7 ?_)
          | (guard_target =~ wpList _ _ _ (_ :: _) _ _; refine wpList_callVG rfl (.tmp 61) #[.tmp 62] _ rfl (f := kRight s.kind) (bound := #[]) (vs := #[.agg (saidC s)]) rfl (by simp only [List.map_toArray, List.map_cons, List.map_nil]; rfl) (kRight_enters _) rfl ?_; refine (HC4.out _).mono ?_; rintro e w8 ⟨rfl, hL8⟩; refine ⟨_, rfl, ?_⟩)
          | fail)
        go_ret
        exact ⟨rfl, hb5.trans (((HL6.out.step hL7).step hL8).below.mono hb5.size)⟩
end Go.Proofs.YtcajhdmppfiaeaaGreat
