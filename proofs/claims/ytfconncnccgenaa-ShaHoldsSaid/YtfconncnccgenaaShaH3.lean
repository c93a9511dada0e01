/- ShaHolds: the walk. -/
import Derived.Test.YtfconncnccgenaaShaH2
import Derived.Test.YtfconncnccgenaaShaCh
import Derived.Test.YtfconncnccgenaaShaP4
import Derived.Test.YtfconncnccgenaaShaE
set_option linter.unusedVariables false
set_option linter.unusedSimpArgs false
namespace Go.Proofs.Ytfconncnccgenaa
open Go.RowKit
theorem neqSame (a : List UInt8) (ha : a.length = 32) (w : World) : (binOp .neq 26 (.agg (hC a)) (.agg (hC a))).run Try.prog w = .ok (.bool false) w := by
  rw [neqHash a a ha ha, beq_self_eq_true]; rfl
theorem eqg_lss {T : TypeId} {x y : Operand} {vx vy : Value} {P : Program} {W : World} : (eqGuard .lss T x y vx vy).run P W = .ok () W := rfl
theorem eqg_nb {x y : Operand} {a b : Bool} {W : World} : (eqGuard .neq 4 x y (.bool a) (.bool b)).run Try.prog W = .ok () W := by kernel_rfl
theorem neqB (a : Bool) (W : World) : (binOp .neq 4 (.bool a) (.bool a)).run Try.prog W = .ok (.bool false) W := by
  go_simp
theorem eqg_strE {x y : Operand} {a b : ByteArray} {W : World} : (eqGuard .eql 9 x y (.string a) (.string b)).run Try.prog W = .ok () W := by kernel_rfl
theorem eqStr (s : List UInt8) (W : World) : (binOp .eql 9 (.string ⟨s.toArray⟩) (.string ⟨s.toArray⟩)).run Try.prog W = .ok (.bool true) W := by
  go_simp
theorem eqStr2 (s t : List UInt8) (W : World) : (binOp .eql 9 (.string ⟨s.toArray⟩) (.string ⟨t.toArray⟩)).run Try.prog W = .ok (.bool (s == t)) W := by
  go_simp
theorem lssStr (s t : List UInt8) (W : World) : (binOp .lss 9 (.string ⟨s.toArray⟩) (.string ⟨t.toArray⟩)).run Try.prog W = .ok (.bool (Op.bytesLess s t)) W := by
  rw [binOp_string_lss, toList_data, toList_data]
  rfl
theorem eqg_i {x y : Operand} {a b : Int} {W : World} : (eqGuard .eql 3 x y (.int .i64 a) (.int .i64 b)).run Try.prog W = .ok () W := by kernel_rfl
theorem eqg_in {x y : Operand} {a b : Int} {W : World} : (eqGuard .neq 3 x y (.int .i64 a) (.int .i64 b)).run Try.prog W = .ok () W := by kernel_rfl
theorem eq00 {W : World} : (binOp .eql 3 (.int .i64 0) (.int .i64 0)).run Try.prog W = .ok (.bool true) W := by kernel_rfl
theorem neq_i0 {W : World} : (binOp .neq 3 (.int .i64 0) (.int .i64 0)).run Try.prog W = .ok (.bool false) W := by kernel_rfl
theorem neq_i110 {W : World} : (binOp .neq 3 (.int .i64 110) (.int .i64 0)).run Try.prog W = .ok (.bool true) W := by kernel_rfl
set_option maxRecDepth 100000 in
set_option maxHeartbeats 8000000 in
theorem shaHolds_main (A : Option Addr) (n ca : Nat) (l : List UInt8) (piece : Nat) (x y : List UInt8) (s : List UInt8) (w : World) (hn : l.length = n) (hnm : n ≤ 600) (hc : n ≤ ca) (hcm : ca ≤ 9223372036854775807) (hr : Rd w A l) (hp : piece < 256) (hx : x.length = 32) (hy : y.length = 32) (hs : s.length ≤ 200) :
    Calls Try.prog 7 #[.slice A n ca, .int .u8 (piece : Int), .agg (hC x), .agg (hC y), .string ⟨s.toArray⟩] w fun e w' => e = .returned (.bool true) ∧ Below w.heap.size w w' := by
  have hd1 : decide (200 < s.length) = false := by simp; omega
  have hd1' : decide ((200 : Int) < (s.length : Int)) = false := by simp; omega
  have hd2 : decide (600 < n) = false := by simp; omega
  have hd2' : decide ((600 : Int) < (n : Int)) = false := by simp; omega
  have k7 := (Row.new w 26 (hC x)).alloc (.cells (hC y) 26)
  have k8 := Row.new (w.alloc (.cells (hC x) 26)) 26 (hC y)
  have kL := ((Later.refl w).alloc (.cells (hC x) 26)).alloc (.cells (hC y) 26)
  have kz : ((w.alloc (.cells (hC x) 26)).alloc (.cells (hC y) 26)).heap.size = w.heap.size + 1 + 1 := by simp only [World.size_alloc]
  obtain ⟨H, hH⟩ : ∃ H, Sha.sum l = H := ⟨_, rfl⟩
  have hHl : H.length = 32 := by rw [← hH]; exact Sha.sum_len _
  have HH := Lib.hid hH
  have HHL := Lib.hid hHl
  have HN := Lib.hid hn
  have HX := Lib.hid hx
  have HY := Lib.hid hy
  clear hn hx hy hH hHl
  go_enter Try.func7, Try.ntmps7
  go_upto_region 3 with (first
    | (refine wpList_box rfl 26 (.tmp 2) rfl (.agg (hC x)) rfl (boxH x HX.out _) ?_)
    | (refine wpList_box rfl 26 (.tmp 3) rfl (.agg (hC y)) rfl (boxH y HY.out _) ?_)
    | fail)
  simp only [World.size_alloc] at k8 ⊢
  obtain ⟨g, hg⟩ : ∃ q, q = w.heap.size := ⟨_, rfl⟩
  rw [← hg] at k7 k8 kz ⊢
  have HG := Lib.hid hg
  clear hg
  generalize (w.alloc (.cells (hC x) 26)).alloc (.cells (hC y) 26) = w1 at *
  have hr1 := hr.later kL
  have hcall := sum_at A n ca l H 23 w1 hr1 HN.out hc hcm (by omega) HH.out
  have HC := Lib.hid hcall
  have KZ := Lib.hid kz
  clear kz hcall hd1 hd1' hd2 hd2' hr
  go_upto_region 4 with (first
    | (refine wpList_buildSl rfl 51 1 _ rfl #[(0, .slice A n ca)] rfl (build1S _ _ _ _) ?_)
    | (go_at_call 10; refine HC.out.mono ?_; rintro e w2 ⟨rfl, hb2⟩; have hL2 : Later w1 w2 := ((Later.refl w1).alloc _).step (hb2.mono (by simp)); obtain ⟨w3, hst, hr11, hg3⟩ := storeH (a := []) (b := H) (by simp) (by rw [HHL.out]; omega) (Row.new w2 26 (hC [])))
    | (with_reducible refine wpList_alloc rfl 26 rfl (allocH _) ?_)
    | (refine wpList_store rfl 26 (.tmp 11) (.tmp 36) rfl (.pointer (some ⟨w2.heap.size, 0, none⟩)) (.agg (hC H)) rfl rfl hst ?_)
    | fail)
  obtain ⟨g11, hg11⟩ : ∃ q, q = w2.heap.size := ⟨_, rfl⟩
  rw [← hg11] at hr11 hg3 ⊢
  have hL3 : Later w1 w3 := Below.grown (hL2.alloc _) hg3 (by have := hL2.size; simp only [World.size_alloc]; omega) (fun j e => by cases e; have := hL2.size; omega)
  have hz11 : g + 1 + 1 ≤ g11 := by have := hL2.size; have := KZ.out; omega
  clear hst hg3 hg11 hL2 hb2 HC
  have k7 := k7.later hL3
  have k8 := k8.later hL3
  have hr3 := hr1.later hL3
  have kL := kL.step hL3
  clear hL3 KZ hr1
  go_upto_region 6 with (first
    | (go_at_call 24; refine (new_any _).mono ?_; rintro e w4 ⟨gr, rfl, hrun, hgr, hb4⟩)
    | fail)
  have k7 := k7.belowAll hb4
  have k8 := k8.belowAll hb4
  have k11 := hr11.belowAll hb4
  have lt11 := hr11.lt
  have kb : Below w.heap.size w w4 := kL.call hb4
  have hr4 := hr3.below hb4
  clear hb4 hr3 kL hr11
  obtain ⟨w5, hw5⟩ : ∃ q, q = w4 := ⟨_, rfl⟩
  have hrun5 := hrun
  have hltr := hrun.lt
  clear hrun hw5 w5
  go_wp2_with fail
  go_loopw [12, 13, 14] (fun r v t wr => ∃ (k ge : Nat) (parts : List (List UInt8)), k ≤ n + 256 ∧ t = .int .i64 (k : Int) ∧ r = .pointer (some ⟨ge, 0, none⟩) ∧ parts.flatten = l.take k ∧ parts.length ≤ k ∧ IsRun wr ge (l.take k) ∧ OwnS 23 w4 wr w4.heap.size v parts ∧ v.ownBlock ≠ some ge ∧ Below w4.heap.size w4 wr) (fun _ _ t _ => n + 256 - (intOf t).toNat)
  case atStart => exact ⟨0, gr, [], by omega, rfl, rfl, rfl, Nat.le_refl _, by rw [List.take_zero]; exact hrun5, OwnS.nil _ _ _ _, by simp [Value.ownBlock], Below.refl _ _⟩
  case round =>
    obtain ⟨k, ge, parts, hk, rfl, rfl, hfl, hpl, hrun, hown, hne, hb⟩ := hrel
    clear hrun5
    have HFL := Lib.hid hfl
    have HPL := Lib.hid hpl
    clear hfl hpl
    have hrk := hr4.below hb
    by_cases hlt : k < n
    · obtain ⟨m, hm⟩ : ∃ m, min n (k + 1 + piece) = m := ⟨_, rfl⟩
      have hkm : k < m := by omega
      have hmn : m ≤ n := by omega
      have hmI : (min (n : Int) ((k : Int) + 1 + (piece : Int))).toNat = m := by omega
      have hrq := rd_piece hrk k (m - k)
      have hrq4 := rd_piece hr4 k (m - k)
      have hlq : ((l.drop k).take (m - k)).length = m - k := by rw [List.length_take, List.length_drop, HN.out]; omega
      have htq : l.take k ++ (l.drop k).take (m - k) = l.take m := by
        rw [show m = k + (m - k) from by omega, List.take_add, show k + (m - k) - k = m - k from by omega]
      have hDb : ∀ ad, Option.map (fun x => x.add k) A = some ad → (l.drop k).take (m - k) ≠ [] → ad.block < w4.heap.size := fun ad e hne => by
        obtain ⟨b, o, e2, hc⟩ := hrq4 hne
        have := block_lt_of_cell (hc 0 (List.length_pos_iff.2 hne))
        rw [e] at e2
        injection e2 with e2
        subst e2
        exact this
      go_upto_region 10 with fail
      have HMI := Lib.hid hmI
      have HM := Lib.hid hm
      have HLQ := Lib.hid hlq
      have HTQ := Lib.hid htq
      have HDB := Lib.hid hDb
      clear hmI hm hlq htq hDb
      generalize (l.drop k).take (m - k) = q at *
      generalize Option.map (fun x => x.add k) A = D at *
      have hbs := hb.size
      have hnw := below_new wr (.cells #[.slice D (m - k) (ca - k)] 23)
      have hown1 := hown.below hnw
      have hcell1 : (wr.alloc (.cells #[.slice D (m - k) (ca - k)] 23)).cell? ⟨wr.heap.size, 0, none⟩ = some (.slice D (m - k) (ca - k)) := ((Row.new wr _ _).cell 0).trans rfl
      go_upto_region 11 with (first
        | (refine wpList_buildSl rfl 51 1 _ rfl #[(0, .slice D (m - k) (ca - k))] rfl (build1S _ _ _ _) ?_)
        | (at_builtin; refine wpList_append_slice rfl (.tmp 58) (.tmp 60) 51 rfl Try.underlying51 infoRow rfl hown1 wr.heap.size D (m - k) (ca - k) q rfl hcell1 HLQ.out (by omega) (by omega) hrq4 (by have := HPL.out; omega) (by simp only [World.size_alloc]; omega) ?_; intro v2 w5 hown2 hg2 hat2)
        | fail)
      have hgeb := hrun.lt
      have hrun5 : IsRun w5 ge (l.take k) := by
        obtain ⟨pp, h1, h2, h3⟩ := hrun
        exact ⟨pp, h1, h2, (h3.alloc _).grown hg2 (fun e => hne e.symm)⟩
      have hb5 : Below w4.heap.size w4 w5 := (hb.alloc hb.size _).grown hg2 (by simp only [World.size_alloc]; omega) (fun j e => (hown1.at_ j e).1)
      have hlo2 : ∀ j, v2.ownBlock = some j → j < w5.heap.size := fun j e => (hown2.at_ j e).2
      have hcp := copy_any ge (l.take k) w5 hrun5
      have hlk : (l.take k).length = k := by rw [List.length_take, HN.out]; omega
      clear hrun hown1 hg2 hcell1 hown hb hnw hrk hat2 hne
      go_upto_region 12 with (first
        | (go_at_call 25; refine hcp.mono ?_; clear hcp; rintro e w6 ⟨gn, rfl, hrun6, hgn, hL6⟩)
        | fail)
      have hown6 := hown2.below (hL6.below)
      have hb6 := hb5.trans (hL6.below.mono hb5.size)
      have hrq6 := hrq4.below hb6
      have hwr := write_any gn (l.take k) D (m - k) (ca - k) q w6 hrun6 HLQ.out (by omega) (by omega) hrq6 (fun ad e hne e2 => by have := HDB.out ad e hne; have := hb5.size; omega) (by rw [hlk]; omega)
      rw [HTQ.out] at hwr
      have hnb6 : v2.ownBlock ≠ some gn := fun e => by have := hlo2 gn e; omega
      have hgn4 : w4.heap.size ≤ gn := by have := hb5.size; omega
      clear hown2 hb5 hL6 hrun5 hrq6
      go_upto_region 14 with (first
        | (go_at_call 26; refine hwr.mono ?_; clear hwr; rintro e w7 ⟨rfl, hrun7, hg7⟩)
        | (go_at_call 17; refine (num_any _ _).mono ?_; rintro e w8 ⟨rfl, rfl⟩)
        | fail)
      have hown7 := hown6.keep (w' := w7) (fun b hb' e => hg7.block b hb' (fun h => hnb6 (by rw [e, h])))
      have hb7 := hb6.grown hg7 hb6.size (fun j e => by cases e; exact hgn4)
      have hfl2 : (parts ++ [q]).flatten = l.take m := by rw [List.flatten_append, HFL.out, ← HTQ.out]; simp
      have hlm : l.take (k + 1 + piece) = l.take m := by
        have h1 := HM.out
        have h2 := HN.out
        by_cases h3 : k + 1 + piece ≤ n
        · rw [show m = k + 1 + piece from by omega]
        · rw [List.take_of_length_le (by omega), List.take_of_length_le (by omega)]
      have hpl2 : (parts ++ [q]).length ≤ k + 1 + piece := by have := HPL.out; simp; omega
      rw [← hlm] at hfl2 hrun7
      clear hlm hown6 hb6 hg7 hrun6
      go_wp2_with fail
      go_roundw
      case rel => exact ⟨k + 1 + piece, gn, parts ++ [q], by omega, by go_num, rfl, hfl2, hpl2, hrun7, hown7, hnb6, hb7⟩
      case measure => simp [intOf]; omega
    · have htk : l.take k = l := List.take_of_length_le (by rw [HN.out]; omega)
      rw [htk] at hrun
      have hfl : parts.flatten = l := by rw [HFL.out, htk]
      have hpl : parts.length ≤ n + 256 := by have := HPL.out; omega
      obtain ⟨A13, c13, rfl, hp1, hp2, hps⟩ := hown.slice
      obtain ⟨np, hnp⟩ : ∃ q, parts.length = q := ⟨_, rfl⟩
      rw [hnp] at hp1 hpl ⊢
      have HNP := Lib.hid hnp
      clear hnp
      have k7 := k7.belowAll hb
      have k8 := k8.belowAll hb
      have k11 := k11.belowAll hb
      have kb := kb.trans (hb.mono kb.size)
      clear hown hr4
      go_upto_region 16 with (first
        | (go_at_call 27; refine (first_any _).mono ?_; rintro e w5 ⟨rfl, rfl⟩)
        | (with_reducible refine wpList_alloc rfl 41 rfl (alloc8 _) ?_)
        | (refine wpList_store rfl 41 (.tmp 17) (.tmp 70) rfl (.pointer (some ⟨_, 0, none⟩)) (.agg (stC Sha.first 0)) rfl rfl (storeS Sha.first _) ?_)
        | fail)
      have j17 := Row.new (wr.alloc (.cells (stC Sha.first 0) 41)) 41 (stC Sha.first 0)
      have jL : Later wr ((wr.alloc (.cells (stC Sha.first 0) 41)).alloc (.cells (stC Sha.first 0) 41)) := ((Later.refl wr).alloc _).alloc _
      have hgs : wr.heap.size ≤ (wr.alloc (.cells (stC Sha.first 0) 41)).heap.size := by simp only [World.size_alloc]; omega
      simp only [Act.put, List.setIfInBounds_toArray, List.set_cons_succ, List.set_cons_zero]
      obtain ⟨gs, hgse⟩ : ∃ q, q = (wr.alloc (.cells (stC Sha.first 0) 41)).heap.size := ⟨_, rfl⟩
      rw [← hgse] at j17 hgs ⊢
      clear hgse
      generalize (wr.alloc (.cells (stC Sha.first 0) 41)).alloc (.cells (stC Sha.first 0) 41) = w6 at *
      have hr6 := hrk.later jL
      have hpc := refPadded_any A n ca l w6 HN.out (by omega) hr6
      obtain ⟨pd, hpd⟩ : ∃ q, Sha.padded l = q := ⟨_, rfl⟩
      have hpl64 := Sha.padded_len l
      rw [hpd] at hpc
      go_upto_region 17 with (first
        | (go_at_call 28; refine hpc.mono ?_; clear hpc; rintro e w7 ⟨v, rfl, hown, hb7⟩)
        | fail)
      obtain ⟨A2, c2, rfl, hc1, hc2, hrd2⟩ := hown.slice
      rw [hpd] at hpl64
      obtain ⟨m, hmm⟩ : ∃ m, pd.length = 64 * m := ⟨pd.length / 64, by omega⟩
      have hsum : H = Sha.toldSt (Sha.foldN m Sha.first pd) := by
        have h1 : Sha.sum l = Sha.toldSt (Sha.foldN (pd.length / 64) Sha.first pd) := by rw [← hpd]; rfl
        rw [← HH.out, h1, hmm, Nat.mul_div_cancel_left _ (by decide)]
      have hfz : Sha.foldN 0 Sha.first pd = Sha.first := rfl
      have HFZ := Lib.hid hfz
      have HS := Lib.hid hsum
      rw [hmm] at hc1 ⊢
      have HM := Lib.hid hmm
      unfold maxLen at hc2
      have hL7 := jL.step hb7
      have j17' := j17
      have j17 := j17.later hb7
      have hA2 : ∀ b o, A2 = some ⟨b, o, none⟩ → b ≠ gs := fun b o e => by
        have h1 := (hown.at_ b (by rw [e]; rfl)).1
        have h2 := j17'.lt
        omega
      clear hown jL hr6
      go_loopw [18] (fun t ws => ∃ k Ak ck, k ≤ m ∧ t = .slice Ak (64 * (m - k)) ck ∧ 64 * (m - k) ≤ ck ∧ ck ≤ 9223372036854775807 ∧ Rd ws Ak (pd.drop (64 * k)) ∧ (∀ b o, Ak = some ⟨b, o, none⟩ → b ≠ gs) ∧ Row ws gs 41 (stC (Sha.foldN k Sha.first pd) 0) ∧ Below wr.heap.size wr ws) (fun t _ => lenV t)
      case atStart => exact ⟨0, A2, c2, by omega, rfl, by omega, hc2, by rw [Nat.mul_zero, List.drop_zero]; exact hrd2, hA2, by rw [HFZ.out]; exact j17, hL7⟩
      case round =>
        obtain ⟨k, Ak, ck, hk, rfl, hck, hcm, hrk, hAk, h3, hb2⟩ := hrel
        clear hrd2 hA2 j17 hL7 hc1 hc2
        by_cases hlt : k < m
        · have hst := foldN_step Sha.first pd k
          have hlen : (pd.drop (64 * k)).length = 64 * (m - k) := by rw [List.length_drop, HM.out]; omega
          obtain ⟨b, o, rfl, _⟩ := hrk.at_ (k := 0) (by omega)
          have hrb := hrk.take 64
          have hB64 : ((pd.drop (64 * k)).take 64).length = 64 := by rw [List.length_take]; omega
          have HST := Lib.hid hst
          have HB64 := Lib.hid hB64
          clear hst hB64
          generalize (pd.drop (64 * k)).take 64 = B at *
          generalize Sha.foldN k Sha.first pd = X at *
          obtain ⟨nk, hnk⟩ : ∃ y, 64 * (m - k) = y := ⟨_, rfl⟩
          rw [hnk] at hlen hck ⊢
          have hnk0 : 64 ≤ nk := by omega
          have HNK := Lib.hid hnk
          have HLEN := Lib.hid hlen
          clear hnk hlen
          have hsl : ∀ w : World, (Instr.sliceAt 23 (.slice (some ⟨b, o, none⟩) nk ck) none (some (.int .i64 64)) none).run Try.prog w = .ok (.slice (some ⟨b, o, none⟩) 64 ck) w :=
            run_slice_upto (k := 64) Try.underlying23 (info5 : ByteInfo Try.prog 5) (by omega)
          obtain ⟨D, hD, hDr, hDb⟩ := run_slice_from2 (P := Try.prog) (A := some ⟨b, o, none⟩) (n := nk) (ca := ck) (k := 64) Try.underlying23 (info5 : ByteInfo Try.prog 5) hnk0 hck
          have hbne := hAk b o rfl
          have hbne2 : ∀ b' o', D = some ⟨b', o', none⟩ → b' ≠ gs := fun b' o' e => by
            obtain ⟨ad', e1, e2⟩ := hDb _ e
            injection e1 with e1
            subst e1
            have e3 : b = b' := e2
            rw [← e3]; exact hbne
          have hbs := hb2.size
          clear hb k7 k8 k11 hps kb hrun
          go_wp2_with fail
          refine (wpIn_wide (n := 0)).1 ?_
          refine wpIn_region_last wide_wide [Pr.eq (.agg (stC X 0)), Pr.eq (.slice (some ⟨b, o, none⟩) nk ck), Pr.eq (.slice (some ⟨b, o, none⟩) 64 ck), Pr.eq (.pointer (some ⟨b, o, none⟩)), Pr.eq (.agg (B.map byteV).toArray), Pr.eq (.agg (stC (Sha.blk X B) 0))] (by kernel_rfl) (by kernel_rfl) (by kernel_rfl) (by kernel_rfl) (by kernel_rfl) (by kernel_rfl) rfl ⟨?_, ?_, ?_, ?_, ?_, ?_, trivial⟩ ?_
          · exact fun ac W hL he => stepOk_want rfl (op_load rfl (he.keep (.tmp 17) (by kernel_rfl)) (run_load_row (h3.later hL) Try.underlying41 rfl (by rw [stC_size]; exact info8)) rfl)
          · exact fun ac W hL he => stepOk_want rfl (op_move rfl (he.keep (.tmp 18) (by kernel_rfl)))
          · exact fun ac W hL he => stepOk_want rfl (op_slice (W' := W) rfl (he.get 1 79 (by kernel_rfl) rfl) rfl rfl rfl (hsl W) rfl)
          · exact fun ac W hL he => stepOk_want rfl (op_arr rfl (he.get 2 80 (by kernel_rfl) rfl) (run_arr64 W) rfl)
          · exact fun ac W hL he => stepOk_want rfl (op_load rfl (he.get 3 81 (by kernel_rfl) rfl) (load_rd64 HB64.out (hrb.later hL)) rfl)
          · intro ac W hL he; refine stepOk_want rfl ?_; have e0 : ac.eval (.tmp 78) = (.agg (stC X 0)) := (he.get 0 78 (by kernel_rfl) rfl); have e1 : ac.eval (.tmp 82) = (.agg (B.map byteV).toArray) := (he.get 4 82 (by kernel_rfl) rfl); exact op_callF (vs := #[.agg (stC X 0), .agg (B.map byteV).toArray]) rfl (by simp only [List.map_toArray, List.map_cons, List.map_nil, e0, e1]) (enters_of Try.func19 (by kernel_rfl) rfl) ((shaPress_any X B W HB64.out).mono fun e W' ⟨he', hb⟩ => ⟨_, he', hb, rfl⟩)
          · intro xs W hL hx hk hg
            have e2 := hg 5 83 (by decide) (by kernel_rfl)
            have v5 : xs 5 = .agg (stC (Sha.blk X B) 0) := hx 5 (by decide)
            rw [v5] at e2
            have e1 := hk (.tmp 17) (by kernel_rfl)
            obtain ⟨W', hstr, hr', hg'⟩ := run_put_row (P := Try.prog) (T := 41) (h3.later hL) (vs := stC (Sha.blk X B) 0) (by rw [stC_size, stC_size]) (by rw [stC_size]; exact info8) (stC_one _ _)
            refine last_store rfl rfl e1 e2 hstr ?_
            clear hx hk hg e1 e2 v5 hstr
            have qb := (hb2.trans (hL.mono hbs)).grown hg' (by have := hL.size; omega) (fun j e => by cases e; exact hgs)
            have qr := (hrk.later hL).grown hg' (fun b' o' e _ => by injection e with e; injection e with e1 e2; subst e1; intro h; injection h with h; exact hbne h)
            have qd := hDr W' _ HLEN.out qr
            rw [← HST.out] at hr'
            simp only [initL, putL, Nat.reduceAdd, Act.put, List.setIfInBounds_toArray, List.set_cons_succ, List.set_cons_zero]
            have hD' : ∀ w : World, (Instr.slice 23 (.slice (some ⟨b, o, none⟩) nk ck) (some (.int .i64 64)) none none).run Try.prog w = .ok (.slice D (nk - 64) (ck - 64)) w := hD
            go_wp2_with fail
            go_roundw
            case rel => exact ⟨k + 1, D, ck - 64, by omega, by rw [show nk - 64 = 64 * (m - (k + 1)) from by have := HNK.out; omega], by have := HNK.out; omega, by omega, by rw [show 64 * (k + 1) = 64 * k + 64 from by omega, ← List.drop_drop]; exact qd, fun b' o' e => hbne2 b' o' e, hr', qb⟩
            case measure => simp [lenV]; omega
        · obtain rfl : k = m := by omega
          rw [Nat.sub_self, Nat.mul_zero]
          clear hrk hAk hk hck hcm hlt HFZ
          have hbW := hb.trans (hb2.mono hb.size)
          have hpsC := (hps.toC hb).below hb2
          have hrun := hrun.later hb2
          have k7 := k7.belowAll hb2
          have k8 := k8.belowAll hb2
          have k11 := k11.belowAll hb2
          have kb := kb.trans (hb2.mono kb.size)
          have hS := HS.out
          have HSUM : Hid (∀ W, Later wr W → Calls Try.prog 10 #[.slice A13 np c13] W fun e w' => e = .returned (.agg (hC H)) ∧ Below W.heap.size W w') := Lib.hid (fun W hL => by
            have := shaSum_any A13 np c13 parts W HNP.out (by have := HNP.out; omega) (by rw [hfl, HN.out]; omega) (hpsC.below hL)
            rwa [hfl, HH.out] at this)
          have HRUN : Hid (∀ W, Later wr W → Calls Try.prog 29 #[.pointer (some ⟨ge, 0, none⟩)] W fun e w' => e = .returned (.agg (hC H)) ∧ Below W.heap.size W w') := Lib.hid (fun W hL => by
            have := runSum_any ge l W (hrun.later hL) (by rw [HN.out]; omega)
            rwa [HH.out] at this)
          generalize Sha.foldN k Sha.first pd = X at *
          have HTOLD : Hid (∀ W, Calls Try.prog 21 #[.agg (stC X 0)] W fun e w' => e = .returned (.agg (hC H)) ∧ Below W.heap.size W w') := Lib.hid (fun W => by
            have := refTold_any X W
            rwa [← hS] at this)
          clear hpsC hrun hS HS hps hb
          go_upto_region 20 with fail
          refine (wpIn_wide (n := 0)).1 ?_
          refine wpIn_region_vals wide_wide [Pr.eq (.slice A13 np c13), Pr.eq (.agg (hC H)), Pr.eq (.agg (hC H)), Pr.eq (.bool false), Pr.eq (.bool false), Pr.eq (.pointer (some ⟨ge, 0, none⟩)), Pr.eq (.agg (hC H)), Pr.eq (.agg (hC H)), Pr.eq (.bool false), Pr.eq (.bool false), Pr.eq (.bool false), Pr.eq (.agg (stC X 0)), Pr.eq (.agg (hC H)), Pr.eq (.agg (hC H)), Pr.eq (.bool false), Pr.eq (.bool false)] (by kernel_rfl) (by kernel_rfl) (by kernel_rfl) (by kernel_rfl) (by kernel_rfl) ⟨?_, ?_, ?_, ?_, ?_, ?_, ?_, ?_, ?_, ?_, ?_, ?_, ?_, ?_, ?_, ?_, trivial⟩ ?_
          · exact fun ac W hL he => stepOk_want rfl (op_move rfl (he.keep (.tmp 13) (by kernel_rfl)))
          · intro ac W hL he; refine stepOk_want rfl ?_; have e0 : ac.eval (.tmp 84) = (.slice A13 np c13) := (he.get 0 84 (by kernel_rfl) rfl); exact op_callF (vs := #[.slice A13 np c13]) rfl (by simp only [List.map_toArray, List.map_cons, List.map_nil, e0]) (enters_of Try.func10 (by kernel_rfl) rfl) ((HSUM.out W hL).mono fun e W' ⟨he', hb⟩ => ⟨_, he', hb, rfl⟩)
          · exact fun ac W hL he => stepOk_want rfl (op_load rfl (he.keep (.tmp 11) (by kernel_rfl)) (loadH HHL.out (k11.later hL)) rfl)
          · exact fun ac W hL he => stepOk_want rfl (op_binOp rfl (he.get 1 85 (by kernel_rfl) rfl) (he.get 2 86 (by kernel_rfl) rfl) (eqgHash _ _ _ _ _ W) (neqSame H HHL.out W) rfl)
          · exact fun ac W hL he => stepOk_want rfl (op_move rfl (he.get 3 87 (by kernel_rfl) rfl))
          · exact fun ac W hL he => stepOk_yes (j := 4) (t := 88) (b := false) rfl rfl (he.get 4 88 (by kernel_rfl) rfl) (op_move rfl (he.keep (.tmp 12) (by kernel_rfl)))
          · intro ac W hL he; refine stepOk_yes (j := 4) (t := 88) (b := false) rfl rfl (he.get 4 88 (by kernel_rfl) rfl) ?_; have e0 : ac.eval (.tmp 89) = (.pointer (some ⟨ge, 0, none⟩)) := (he.get 5 89 (by kernel_rfl) rfl); exact op_callF (vs := #[.pointer (some ⟨ge, 0, none⟩)]) rfl (by simp only [List.map_toArray, List.map_cons, List.map_nil, e0]) (enters_of Try.func29 (by kernel_rfl) rfl) ((HRUN.out W hL).mono fun e W' ⟨he', hb⟩ => ⟨_, he', hb, rfl⟩)
          · exact fun ac W hL he => stepOk_yes (j := 4) (t := 88) (b := false) rfl rfl (he.get 4 88 (by kernel_rfl) rfl) (op_load rfl (he.keep (.tmp 11) (by kernel_rfl)) (loadH HHL.out (k11.later hL)) rfl)
          · exact fun ac W hL he => stepOk_yes (j := 4) (t := 88) (b := false) rfl rfl (he.get 4 88 (by kernel_rfl) rfl) (op_binOp rfl (he.get 6 90 (by kernel_rfl) rfl) (he.get 7 91 (by kernel_rfl) rfl) (eqgHash _ _ _ _ _ W) (neqSame H HHL.out W) rfl)
          · exact fun ac W hL he => stepOk_want rfl (op_pick (b := false) rfl (he.get 4 88 (by kernel_rfl) rfl) (he.get 8 92 (by kernel_rfl) rfl))
          · exact fun ac W hL he => stepOk_want rfl (op_move rfl (he.get 9 93 (by kernel_rfl) rfl))
          · exact fun ac W hL he => stepOk_yes (j := 10) (t := 94) (b := false) rfl rfl (he.get 10 94 (by kernel_rfl) rfl) (op_load rfl (he.keep (.tmp 17) (by kernel_rfl)) (run_load_row (h3.later hL) Try.underlying41 rfl (by rw [stC_size]; exact info8)) rfl)
          · intro ac W hL he; refine stepOk_yes (j := 10) (t := 94) (b := false) rfl rfl (he.get 10 94 (by kernel_rfl) rfl) ?_; have e0 : ac.eval (.tmp 95) = (.agg (stC X 0)) := (he.get 11 95 (by kernel_rfl) rfl); exact op_callF (vs := #[.agg (stC X 0)]) rfl (by simp only [List.map_toArray, List.map_cons, List.map_nil, e0]) (enters_of Try.func21 (by kernel_rfl) rfl) ((HTOLD.out W).mono fun e W' ⟨he', hb⟩ => ⟨_, he', hb, rfl⟩)
          · exact fun ac W hL he => stepOk_yes (j := 10) (t := 94) (b := false) rfl rfl (he.get 10 94 (by kernel_rfl) rfl) (op_load rfl (he.keep (.tmp 11) (by kernel_rfl)) (loadH HHL.out (k11.later hL)) rfl)
          · exact fun ac W hL he => stepOk_yes (j := 10) (t := 94) (b := false) rfl rfl (he.get 10 94 (by kernel_rfl) rfl) (op_binOp rfl (he.get 12 96 (by kernel_rfl) rfl) (he.get 13 97 (by kernel_rfl) rfl) (eqgHash _ _ _ _ _ W) (neqSame H HHL.out W) rfl)
          · exact fun ac W hL he => stepOk_want rfl (op_pick (b := false) rfl (he.get 10 94 (by kernel_rfl) rfl) (he.get 14 98 (by kernel_rfl) rfl))
          intro xs W9 hL9 hx
          have he99 : xs 15 = .bool false := hx 15 (by decide)
          have k7 := k7.later hL9
          have k8 := k8.later hL9
          have kb := kb.trans (hL9.mono kb.size)
          clear hx hL9 h3 k11 HSUM HRUN HTOLD hb2 hbW
          simp only [putL, Nat.reduceAdd, Act.put, List.setIfInBounds_toArray, List.set_cons_succ, List.set_cons_zero, he99]
          go_upto_region 22 with fail
          obtain ⟨hpt, hpe⟩ := parse_text x HX.out
          have htl : ((textOf x).length = 64) := (text_digits x HX.out).1
          have htlt := text_less x y (by rw [HX.out, HY.out])
          have hteq := text_inj x y HX.out HY.out
          have HTX := Lib.hid (fun W => text_any x HX.out W)
          have HTY := Lib.hid (fun W => text_any y HY.out W)
          generalize textOf x = tx at *
          generalize textOf y = ty at *
          have HLT := Lib.hid (fun W => lssStr tx ty W)
          have HLX := Lib.hid (fun W => lssStr x y W)
          have HET := Lib.hid (fun W => eqStr2 tx ty W)
          have HEX := Lib.hid (fun W => eqlHash x y HX.out HY.out W)
          rw [htlt] at HLT
          rw [hteq] at HET
          generalize Op.bytesLess x y = B1 at *
          generalize (x == y) = B2 at *
          have HPT := Lib.hid hpt
          have HPE := Lib.hid hpe
          have HTL := Lib.hid htl
          clear hpt hpe htl htlt hteq
          refine (wpIn_wide (n := 0)).1 ?_
          refine wpIn_region_vals wide_wide [Pr.eq (.agg (hC x)), Pr.eq (.string ⟨tx.toArray⟩), Pr.eq (.agg (hC y)), Pr.eq (.string ⟨ty.toArray⟩), Pr.eq (.string ⟨tx.toArray⟩), Pr.eq (.string ⟨ty.toArray⟩)] (by kernel_rfl) (by kernel_rfl) (by kernel_rfl) (by kernel_rfl) (by kernel_rfl) ⟨?_, ?_, ?_, ?_, ?_, ?_, trivial⟩ ?_
          · exact fun ac W hL he => stepOk_want rfl (op_load rfl (he.keep (.tmp 7) (by kernel_rfl)) (loadH HX.out (k7.later hL)) rfl)
          · intro ac W hL he; refine stepOk_want rfl ?_; have e0 : ac.eval (.tmp 100) = (.agg (hC x)) := (he.get 0 100 (by kernel_rfl) rfl); exact op_callF (vs := #[.agg (hC x)]) rfl (by simp only [List.map_toArray, List.map_cons, List.map_nil, e0]) (enters_of Try.func18 (by kernel_rfl) rfl) ((HTX.out W).mono fun e W' ⟨he', hb⟩ => ⟨_, he', hb, rfl⟩)
          · exact fun ac W hL he => stepOk_want rfl (op_load rfl (he.keep (.tmp 8) (by kernel_rfl)) (loadH HY.out (k8.later hL)) rfl)
          · intro ac W hL he; refine stepOk_want rfl ?_; have e0 : ac.eval (.tmp 102) = (.agg (hC y)) := (he.get 2 102 (by kernel_rfl) rfl); exact op_callF (vs := #[.agg (hC y)]) rfl (by simp only [List.map_toArray, List.map_cons, List.map_nil, e0]) (enters_of Try.func18 (by kernel_rfl) rfl) ((HTY.out W).mono fun e W' ⟨he', hb⟩ => ⟨_, he', hb, rfl⟩)
          · exact fun ac W hL he => stepOk_want rfl (op_assign rfl (he.get 1 101 (by kernel_rfl) rfl))
          · exact fun ac W hL he => stepOk_want rfl (op_assign rfl (he.get 3 103 (by kernel_rfl) rfl))
          intro xs2 W10 hL10 hx
          have hs19 : xs2 4 = .string ⟨tx.toArray⟩ := hx 4 (by decide)
          have hs20 : xs2 5 = .string ⟨ty.toArray⟩ := hx 5 (by decide)
          have k7 := k7.later hL10
          have k8 := k8.later hL10
          have kb := kb.trans (hL10.mono kb.size)
          clear hx hL10 HTX HTY
          simp only [putL, Nat.reduceAdd, Act.put, List.setIfInBounds_toArray, List.set_cons_succ, List.set_cons_zero, hs19, hs20]
          go_upto_region 23 with fail
          refine (wpIn_wide (n := 0)).1 ?_
          refine wpIn_region_vals wide_wide [Pr.eq (.string ⟨tx.toArray⟩), Pr.eq (.string ⟨ty.toArray⟩), Pr.eq (.bool B1), Pr.eq (.slice (some ⟨g, 0, none⟩) 32 32), Pr.eq (.string ⟨x.toArray⟩), Pr.eq (.slice (some ⟨(g + 1), 0, none⟩) 32 32), Pr.eq (.string ⟨y.toArray⟩), Pr.eq (.bool B1), Pr.eq (.bool false), Pr.eq (.bool false), Pr.eq (.string ⟨tx.toArray⟩), Pr.eq (.string ⟨ty.toArray⟩), Pr.eq (.bool B2), Pr.eq (.agg (hC x)), Pr.eq (.agg (hC y)), Pr.eq (.bool B2), Pr.eq (.bool false), Pr.eq (.bool false)] (by kernel_rfl) (by kernel_rfl) (by kernel_rfl) (by kernel_rfl) (by kernel_rfl) ⟨?_, ?_, ?_, ?_, ?_, ?_, ?_, ?_, ?_, ?_, ?_, ?_, ?_, ?_, ?_, ?_, ?_, ?_, trivial⟩ ?_
          · exact fun ac W hL he => stepOk_want rfl (op_move rfl (he.keep (.tmp 19) (by kernel_rfl)))
          · exact fun ac W hL he => stepOk_want rfl (op_move rfl (he.keep (.tmp 20) (by kernel_rfl)))
          · exact fun ac W hL he => stepOk_want rfl (op_binOp rfl (he.get 0 104 (by kernel_rfl) rfl) (he.get 1 105 (by kernel_rfl) rfl) eqg_lss (HLT.out W) rfl)
          · exact fun ac W hL he => stepOk_want rfl (op_slice (W' := W) rfl (he.keep (.tmp 7) (by kernel_rfl)) rfl rfl rfl (sliceHash W) rfl)
          · exact fun ac W hL he => stepOk_want rfl (op_convert rfl (he.get 3 107 (by kernel_rfl) rfl) (run_string_rd W 23 9 5 _ 32 32 x Try.underlying23 Try.underlying5 Try.underlying9 HX.out (rd_hash HX.out (k7.later hL))) (Later.refl _) rfl)
          · exact fun ac W hL he => stepOk_want rfl (op_slice (W' := W) rfl (he.keep (.tmp 8) (by kernel_rfl)) rfl rfl rfl (sliceHash W) rfl)
          · exact fun ac W hL he => stepOk_want rfl (op_convert rfl (he.get 5 109 (by kernel_rfl) rfl) (run_string_rd W 23 9 5 _ 32 32 y Try.underlying23 Try.underlying5 Try.underlying9 HY.out (rd_hash HY.out (k8.later hL))) (Later.refl _) rfl)
          · exact fun ac W hL he => stepOk_want rfl (op_binOp rfl (he.get 4 108 (by kernel_rfl) rfl) (he.get 6 110 (by kernel_rfl) rfl) eqg_lss (HLX.out W) rfl)
          · exact fun ac W hL he => stepOk_want rfl (op_binOp rfl (he.get 2 106 (by kernel_rfl) rfl) (he.get 7 111 (by kernel_rfl) rfl) eqg_nb (neqB B1 W) rfl)
          · exact fun ac W hL he => stepOk_want rfl (op_move rfl (he.get 8 112 (by kernel_rfl) rfl))
          · exact fun ac W hL he => stepOk_yes (j := 9) (t := 113) (b := false) rfl rfl (he.get 9 113 (by kernel_rfl) rfl) (op_move rfl (he.keep (.tmp 19) (by kernel_rfl)))
          · exact fun ac W hL he => stepOk_yes (j := 9) (t := 113) (b := false) rfl rfl (he.get 9 113 (by kernel_rfl) rfl) (op_move rfl (he.keep (.tmp 20) (by kernel_rfl)))
          · exact fun ac W hL he => stepOk_yes (j := 9) (t := 113) (b := false) rfl rfl (he.get 9 113 (by kernel_rfl) rfl) (op_binOp rfl (he.get 10 114 (by kernel_rfl) rfl) (he.get 11 115 (by kernel_rfl) rfl) eqg_strE (HET.out W) rfl)
          · exact fun ac W hL he => stepOk_yes (j := 9) (t := 113) (b := false) rfl rfl (he.get 9 113 (by kernel_rfl) rfl) (op_load rfl (he.keep (.tmp 7) (by kernel_rfl)) (loadH HX.out (k7.later hL)) rfl)
          · exact fun ac W hL he => stepOk_yes (j := 9) (t := 113) (b := false) rfl rfl (he.get 9 113 (by kernel_rfl) rfl) (op_load rfl (he.keep (.tmp 8) (by kernel_rfl)) (loadH HY.out (k8.later hL)) rfl)
          · exact fun ac W hL he => stepOk_yes (j := 9) (t := 113) (b := false) rfl rfl (he.get 9 113 (by kernel_rfl) rfl) (op_binOp rfl (he.get 13 117 (by kernel_rfl) rfl) (he.get 14 118 (by kernel_rfl) rfl) (eqgHash _ _ _ _ _ W) (HEX.out W) rfl)
          · exact fun ac W hL he => stepOk_yes (j := 9) (t := 113) (b := false) rfl rfl (he.get 9 113 (by kernel_rfl) rfl) (op_binOp rfl (he.get 12 116 (by kernel_rfl) rfl) (he.get 15 119 (by kernel_rfl) rfl) eqg_nb (neqB B2 W) rfl)
          · exact fun ac W hL he => stepOk_want rfl (op_pick (b := false) rfl (he.get 9 113 (by kernel_rfl) rfl) (he.get 16 120 (by kernel_rfl) rfl))
          intro xs3 W11 hL11 hx
          have he121 : xs3 17 = .bool false := hx 17 (by decide)
          have k7 := k7.later hL11
          have k8 := k8.later hL11
          have kb := kb.trans (hL11.mono kb.size)
          clear hx hL11 HLT HLX HET HEX
          simp only [putL, Nat.reduceAdd, Act.put, List.setIfInBounds_toArray, List.set_cons_succ, List.set_cons_zero, he121]
          go_upto_region 25 with fail
          have HP1 : Hid (∀ W, Calls Try.prog 15 #[.string ⟨tx.toArray⟩] W fun e w' => e = .returned (.tuple #[.agg (hC x), .int .i64 0]) ∧ Below W.heap.size W w') := Lib.hid (fun W => by
            have := parse_any ⟨tx.toArray⟩ W (by show tx.toArray.size ≤ _; simp [HTL.out])
            rwa [show (⟨tx.toArray⟩ : ByteArray).data.toList = tx from by simp, HPT.out, HPE.out] at this)
          obtain ⟨z, hz⟩ : ∃ q, parseB s = q := ⟨_, rfl⟩
          obtain ⟨E, hE⟩ : ∃ q, parseE s = q := ⟨_, rfl⟩
          have hzl : z.length ≤ 32 := by rw [← hz]; exact parseB_len _
          have HP2 : Hid (∀ W, Calls Try.prog 15 #[.string ⟨s.toArray⟩] W fun e w' => e = .returned (.tuple #[.agg (hC z), .int .i64 E]) ∧ Below W.heap.size W w') := Lib.hid (fun W => by
            have := parse_any ⟨s.toArray⟩ W (by show s.toArray.size ≤ _; simp; omega)
            rwa [show (⟨s.toArray⟩ : ByteArray).data.toList = s from by simp, hz, hE] at this)
          have HZ := Lib.hid hz
          have HE := Lib.hid hE
          clear hz hE HPT HPE HTL
          go_upto_region 26 with (first
            | (go_at_call 15; refine (HP1.out _).mono ?_; rintro e w12 ⟨rfl, hb12⟩; obtain ⟨w13, hst, k21, hg13⟩ := storeH (a := []) (b := x) (by simp) (by rw [HX.out]; omega) (Row.new w12 26 (hC [])))
            | (with_reducible refine wpList_alloc rfl 26 rfl (allocH _) ?_)
            | (refine wpList_store rfl 26 (.tmp 21) (.tmp 125) rfl (.pointer (some ⟨w12.heap.size, 0, none⟩)) (.agg (hC x)) rfl rfl hst ?_)
            | fail)
          have hL12 : Later W11 w12 := hb12
          have hL13 : Later W11 w13 := Below.grown (hL12.alloc _) hg13 (by have := hL12.size; simp only [World.size_alloc]; omega) (fun j e => by cases e; exact hL12.size)
          obtain ⟨g21, hg21⟩ : ∃ q, q = w12.heap.size := ⟨_, rfl⟩
          rw [← hg21] at k21 ⊢
          have k7 := k7.later hL13
          have k8 := k8.later hL13
          have kb := kb.trans (hL13.mono kb.size)
          clear hst hg13 hg21 hL12 hb12 hL13 HP1
          go_upto_region 27 with (first
            | (go_at_call 15; refine (HP2.out _).mono ?_; rintro e w14 ⟨rfl, hb14⟩; obtain ⟨w15, hst, k23, hg15⟩ := storeH (a := []) (b := z) (by simp) hzl (Row.new w14 26 (hC [])))
            | (with_reducible refine wpList_alloc rfl 26 rfl (allocH _) ?_)
            | (refine wpList_store rfl 26 (.tmp 23) (.tmp 130) rfl (.pointer (some ⟨w14.heap.size, 0, none⟩)) (.agg (hC z)) rfl rfl hst ?_)
            | fail)
          have hL14 : Later w13 w14 := hb14
          have hL15 : Later w13 w15 := Below.grown (hL14.alloc _) hg15 (by have := hL14.size; simp only [World.size_alloc]; omega) (fun j e => by cases e; exact hL14.size)
          obtain ⟨g23, hg23⟩ : ∃ q, q = w14.heap.size := ⟨_, rfl⟩
          rw [← hg23] at k23 ⊢
          have k7 := k7.later hL15
          have k21 := k21.later hL15
          have kb := kb.trans (hL15.mono kb.size)
          have ld7 := loadH HX.out k7
          have ld21 := loadH HX.out k21
          clear hst hg15 hg23 hL14 hb14 hL15 HP2 k8 k7 k21
          by_cases hh : isHash s
          · have hE0 : E = 0 := by rw [← HE.out]; exact (parse_ok hh).2
            subst hE0
            have hzt : textOf z = s := by rw [← HZ.out]; exact text_parse s hh
            have hzl2 : z.length = 32 := by
              have := congrArg List.length hzt
              rw [textOf_len, hh.1] at this
              omega
            have HZT := Lib.hid (fun W => hzt ▸ text_any z hzl2 W)
            have ld23 := loadH hzl2 k23
            clear k23 hzt hh
            go_wp2_with (first
              | (go_at_call 17; refine (num_any _ _).mono ?_; rintro e w16 ⟨rfl, rfl⟩)
              | (refine wpList_loadG (by rfl) 26 (.tmp 21) rfl (.pointer (some ⟨g21, 0, none⟩)) rfl ld21 ?_)
              | (refine wpList_loadG (by rfl) 26 (.tmp 7) rfl (.pointer (some ⟨g, 0, none⟩)) rfl ld7 ?_)
              | (refine wpList_loadG (by rfl) 26 (.tmp 23) rfl (.pointer (some ⟨g23, 0, none⟩)) rfl ld23 ?_)
              | (refine wpList_binG (by rfl) .eql 26 _ (.tmp 136) (.tmp 137) rfl (.agg (hC x)) (.agg (hC x)) rfl rfl (eqgHash _ _ _ _ _ _) (eqlSame x HX.out _) ?_)
              | (go_at_call 18; refine (HZT.out _).mono ?_; rintro e w17 ⟨rfl, hb17⟩)
              | (go_at_call 9; refine (works_yes _).mono ?_; rintro e w18 ⟨rfl, hb18⟩)
              | fail)
            go_ret
            exact ⟨rfl, (kb.trans (Below.mono hb17 kb.size)).trans (Below.mono hb18 (Nat.le_trans kb.size (Below.size hb17)))⟩
          · have hE0 : E = 110 := by rw [← HE.out]; exact (parse_no hh).2
            subst hE0
            clear k23 hh
            go_wp2_with (first
              | (go_at_call 17; refine (num_any _ _).mono ?_; rintro e w16 ⟨rfl, rfl⟩)
              | (refine wpList_loadG (by rfl) 26 (.tmp 21) rfl (.pointer (some ⟨g21, 0, none⟩)) rfl ld21 ?_)
              | (refine wpList_loadG (by rfl) 26 (.tmp 7) rfl (.pointer (some ⟨g, 0, none⟩)) rfl ld7 ?_)
              | (refine wpList_binG (by rfl) .eql 26 _ (.tmp 136) (.tmp 137) rfl (.agg (hC x)) (.agg (hC x)) rfl rfl (eqgHash _ _ _ _ _ _) (eqlSame x HX.out _) ?_)
              | (go_at_call 9; refine (works_yes _).mono ?_; rintro e w18 ⟨rfl, hb18⟩)
              | fail)
            go_ret
            exact ⟨rfl, kb.trans (Below.mono hb18 kb.size)⟩
end Go.Proofs.Ytfconncnccgenaa
