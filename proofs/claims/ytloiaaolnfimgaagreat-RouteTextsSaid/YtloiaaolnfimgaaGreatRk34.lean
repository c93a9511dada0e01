/- Walks, route: the document's Parse: the digits. -/
import Derived.Test.YtloiaaolnfimgaaGreatRk34t
set_option linter.unusedVariables false
set_option linter.unusedSimpArgs false
namespace Go.Proofs.YtloiaaolnfimgaaGreat
open Go.RowKit Rt
namespace Rt
theorem loop_data (bs : ByteArray) : ∀ (n i : Nat) (r : List UInt8), bs.size - i = n → ByteArray.toList.loop bs i r = r.reverse ++ bs.data.toList.drop i := by
  intro n
  induction n with
  | zero =>
    intro i r h
    rw [ByteArray.toList.loop, if_neg (by omega), List.drop_eq_nil_of_le (by simp; omega)]
    simp
  | succ n ih =>
    intro i r h
    have hi : i < bs.data.toList.length := by simp; omega
    rw [ByteArray.toList.loop, if_pos (by omega), ih (i + 1) _ (by omega), List.reverse_cons, List.append_assoc, List.drop_eq_getElem_cons hi]
    congr 1
    have hi2 : i < bs.data.size := by simpa using hi
    simp only [ByteArray.get!, Array.getElem_toList, List.nil_append, List.cons_append, List.reverse_nil, List.cons.injEq, and_true]
    exact getElem!_pos bs.data i hi2
theorem toList_data (bs : ByteArray) : bs.toList = bs.data.toList := by
  unfold ByteArray.toList
  rw [loop_data bs bs.size 0 [] (by omega)]
  simp
end Rt
theorem build1B (z : Int) (w : World) : (Instr.buildSlice 60 1 #[(0, .int .u8 z)]).run Tryz.prog w = .ok (.slice (some ⟨w.heap.size, 0, none⟩) 1 1) (w.alloc (.cells #[.int .u8 z] 5)) := by kernel_rfl
theorem conv25 (z : Nat) (hz : z < 256) (w : World) : (convert 3 5 (.int .i64 (z : Int))).run Tryz.prog w = .ok (.int .u8 (z : Int)) w := by
  have h' : (convert 3 5 (.int .i64 (z : Int))).run Tryz.prog w = .ok (.int .u8 (IntKind.u8.wrap (z : Int))) w := by kernel_rfl
  rw [h', show IntKind.u8.wrap (z : Int) = (z : Int) from by simp [IntKind.wrap, IntKind.bits, IntKind.signed]; omega]
theorem dig_nat {c : UInt8} (h : 0 ≤ dig c) : ∃ n : Nat, dig c = (n : Int) ∧ n < 16 := ⟨(dig c).toNat, by omega, by have := dig_bd c; omega⟩
theorem parsed_wf (b : List UInt8) : (parsedB b).1.wf := by
  unfold parsedB
  split
  · next h => exact invOf_wf (by simp only [Bool.and_eq_true] at h; exact h.1)
  · exact noHop_wf
theorem parse_wf (s : List UInt8) : (Rt.parse s).1.wf := by
  unfold Rt.parse
  split
  · exact parsed_wf _
  · exact noHop_wf
set_option maxRecDepth 100000 in
set_option maxHeartbeats 4000000 in
theorem refParse25_any (s : List UInt8) (w : World) (hs : s.length ≤ 1000000) :
    Calls Tryz.prog 19 #[.string ⟨s.toArray⟩] w fun e w' => e = .returned (.tuple #[.agg (hopC (Rt.parse s).1), .int .i64 (Rt.parse s).2]) ∧ Below w.heap.size w w' := by
  refine Calls.post fun Φ HΦ => ?_
  have HNO : Hid (okText s = false → ∀ w', Below w.heap.size w w' → Φ (.returned (.tuple #[.agg (hopC noHop), .int .i64 351])) w') := Lib.hid (fun hno w' hb => HΦ.out _ _ ⟨by unfold Rt.parse; rw [hno]; rfl, hb⟩)
  have k2 := Row.new w 51 (hopC noHop)
  have hb := below_new w (.cells (hopC noHop) 51)
  have hsz : (⟨s.toArray⟩ : ByteArray).size = s.length := rfl
  have hpre := Lib.hasPrefix_of_take s markL
  have hm5 : markL.length = 5 := rfl
  rw [hm5] at hpre
  have hst0 := storeInv noHop_wf noHop_wf k2
  obtain ⟨wst, hst, kst, hgst⟩ := hst0
  have hbst : Below w.heap.size w wst := Below.grown hb hgst (by simp) (fun j e => by cases e; exact Nat.le_refl _)
  have HGS := Lib.hid hgst
  clear hgst
  go_enter Tryz.func19, Tryz.ntmps19
  go_upto_region 1 with (first
    | (with_reducible refine wpList_alloc rfl 51 rfl (allocInv _) ?_)
    | fail)
  obtain ⟨q, hq0⟩ : ∃ q, q = w.heap.size := ⟨_, rfl⟩
  rw [← hq0] at k2 hst kst ⊢
  have hq1 : (w.alloc (.cells (hopC noHop) 51)).heap.size = q + 1 := by rw [hq0]; simp
  have HQ := Lib.hid hq0
  clear hq0
  generalize w.alloc (.cells (hopC noHop) 51) = w1 at *
  have HQ1 := Lib.hid hq1
  clear hq1
  by_cases h5 : s.length < 5
  · have d1 : decide ((s.length : Int) < 5) = true := decide_eq_true (by omega)
    have d1' : decide (s.length < 5) = true := decide_eq_true h5
    have hno : okText s = false := by
      unfold okText
      rw [← hpre, decide_eq_false (by omega)]
      rfl
    clear hpre
    go_wp2_with (first | (guard_target =~ wpList _ _ _ (_ :: _) _ _; refine wpList_build rfl 51 _ rfl #[] (by simp only [List.map_toArray, List.map_nil]) (buildInv0 _) ?_) | (guard_target =~ wpList _ _ _ (_ :: _) _ _; refine wpList_store rfl 51 (.tmp 2) (.tmp 30) rfl (.pointer (some ⟨q, 0, none⟩)) (.agg (hopC noHop)) rfl rfl hst ?_) | fail)
    exact bodyPost_ret (results_cell_tmp rfl _ _ q 51 (hopC noHop) (0, 0) _ (.int .i64 351) rfl rfl kst Tryz.underlying51 rfl (by rw [hopC_size noHop_wf]; exact infoInv)) rfl (HNO.out hno _ hbst)
  have d1 : decide ((s.length : Int) < 5) = false := decide_eq_false (by omega)
  have d1' : decide (s.length < 5) = false := decide_eq_false h5
  rw [decide_eq_true (by omega), Bool.true_and] at hpre
  have hsl := fun W => run_str_to s 5 (by omega) hs W
  have hext : ((⟨s.toArray⟩ : ByteArray).extract 0 5).toList = s.take 5 := by rw [ba_take, toList_data]
  by_cases hmk : s.take 5 = markL
  case neg =>
    have hext2 : ¬ ((⟨s.toArray⟩ : ByteArray).extract 0 5).toList = [116, 97, 108, 108, 121] := by rw [hext]; exact hmk
    have hno : okText s = false := by
      unfold okText
      rw [← hpre, show (s.take 5 == markL) = false by simpa using hmk]
      rfl
    clear hpre hext hmk
    go_wp2_with (first | (guard_target =~ wpList _ _ _ (_ :: _) _ _; refine wpList_build rfl 51 _ rfl #[] (by simp only [List.map_toArray, List.map_nil]) (buildInv0 _) ?_) | (guard_target =~ wpList _ _ _ (_ :: _) _ _; refine wpList_store rfl 51 (.tmp 2) (.tmp 30) rfl (.pointer (some ⟨q, 0, none⟩)) (.agg (hopC noHop)) rfl rfl hst ?_) | fail)
    exact bodyPost_ret (results_cell_tmp rfl _ _ q 51 (hopC noHop) (0, 0) _ (.int .i64 351) rfl rfl kst Tryz.underlying51 rfl (by rw [hopC_size noHop_wf]; exact infoInv)) rfl (HNO.out hno _ hbst)
  have hext2 : ((⟨s.toArray⟩ : ByteArray).extract 0 5).toList = [116, 97, 108, 108, 121] := by rw [hext, hmk]; rfl
  have hpf : Lib.hasPrefix s markL = true := by rw [← hpre, hmk]; rfl
  clear hpre hext hmk
  by_cases hev : s.length % 2 = 0
  · have hd : (((s.length : Int) % 2) == 0) = true := by simp; omega
    have hd2 : ((s.length : Int) % 2) = 0 := by omega
    have hno : okText s = false := by
      unfold okText okHex
      rw [decide_eq_false (show ¬ (s.drop 5).length % 2 = 0 by rw [List.length_drop]; omega)]
      simp
    go_wp2_with (first | (guard_target =~ wpList _ _ _ (_ :: _) _ _; refine wpList_build rfl 51 _ rfl #[] (by simp only [List.map_toArray, List.map_nil]) (buildInv0 _) ?_) | (guard_target =~ wpList _ _ _ (_ :: _) _ _; refine wpList_store rfl 51 (.tmp 2) (.tmp 30) rfl (.pointer (some ⟨q, 0, none⟩)) (.agg (hopC noHop)) rfl rfl hst ?_) | fail)
    exact bodyPost_ret (results_cell_tmp rfl _ _ q 51 (hopC noHop) (0, 0) _ (.int .i64 351) rfl rfl kst Tryz.underlying51 rfl (by rw [hopC_size noHop_wf]; exact infoInv)) rfl (HNO.out hno _ hbst)
  have hd : (((s.length : Int) % 2) == 0) = false := by simp; omega
  have hd2 : ¬ ((s.length : Int) % 2) = 0 := by omega
  by_cases h3 : 300 < s.length
  · have d3 : decide ((s.length : Int) > 300) = true := decide_eq_true (by omega)
    have d3' : decide (300 < (s.length : Int)) = true := decide_eq_true (by omega)
    have d3'' : decide (300 < s.length) = true := decide_eq_true h3
    have hno : okText s = false := by
      unfold okText
      rw [decide_eq_false (show ¬ s.length ≤ 300 by omega)]
      simp
    go_wp2_with (first | (guard_target =~ wpList _ _ _ (_ :: _) _ _; refine wpList_build rfl 51 _ rfl #[] (by simp only [List.map_toArray, List.map_nil]) (buildInv0 _) ?_) | (guard_target =~ wpList _ _ _ (_ :: _) _ _; refine wpList_store rfl 51 (.tmp 2) (.tmp 30) rfl (.pointer (some ⟨q, 0, none⟩)) (.agg (hopC noHop)) rfl rfl hst ?_) | fail)
    exact bodyPost_ret (results_cell_tmp rfl _ _ q 51 (hopC noHop) (0, 0) _ (.int .i64 351) rfl rfl kst Tryz.underlying51 rfl (by rw [hopC_size noHop_wf]; exact infoInv)) rfl (HNO.out hno _ hbst)
  have d3 : decide ((s.length : Int) > 300) = false := decide_eq_false (by omega)
  have d3' : decide (300 < (s.length : Int)) = false := decide_eq_false (by omega)
  have d3'' : decide (300 < s.length) = false := decide_eq_false h3
  clear hst kst hbst
  go_wp2_with fail
  clear hext2
  obtain ⟨r, hr⟩ : ∃ r, s.drop 5 = r := ⟨_, rfl⟩
  obtain ⟨m, hm⟩ : ∃ m, s.length = 5 + 2 * m := ⟨(s.length - 5) / 2, by omega⟩
  have hrl : r.length = 2 * m := by rw [← hr, List.length_drop]; omega
  have hm3 : m ≤ 150 := by omega
  have HOT : Hid (okText s = (hexOk r && decide (openE (unhex r) = 0))) := Lib.hid (by
    unfold okText okHex
    rw [hpf, hr, hrl, decide_eq_true (show s.length ≤ 300 by omega), decide_eq_true (show 2 * m % 2 = 0 by omega)]
    simp)
  have HRR := Lib.hid hr
  have HRL := Lib.hid hrl
  have HM := Lib.hid hm
  have hat : ∀ i c, r[i]? = some c → ∀ W, (Instr.index 9 (.string ⟨s.toArray⟩) (.int .i64 ((5 + i : Nat) : Int))).run Tryz.prog W = .ok (.int .u8 (c.toNat : Int)) W := fun i c h W => by
    rw [← hr, List.getElem?_drop] at h
    obtain ⟨h1, h2⟩ := List.getElem?_eq_some_iff.1 h
    exact idxStr (s := ⟨s.toArray⟩) (k := 5 + i) h1 (by rw [← h2]; rfl) W
  have HAT := Lib.hid hat
  have hbw1 := hb
  have hsq : w1.heap.size = q + 1 := HQ1.out
  clear hr hrl hat hpf hev hd hd2 h3 d1 d1' d3 d3' d3'' h5 hsl HGS
  have hmc : (s.length : Int) = 5 + 2 * (m : Int) := by omega
  have HMC := Lib.hid hmc
  clear hmc hm
  go_loopw [4, 5, 6, 7] (fun bv kv _ _ wr => ∃ k : Nat, k ≤ m ∧ kv = .int .i64 ((5 + 2 * k : Nat) : Int) ∧ Own 5 wr (q + 1) bv (unhex (r.take (2 * k))) ∧ hexOk (r.take (2 * k)) = true ∧ Row wr q 51 (hopC noHop) ∧ Below w.heap.size w wr ∧ q + 1 ≤ wr.heap.size) (fun _ kv _ _ _ => s.length + 2 - (intOf kv).toNat)
  case atStart => exact ⟨0, by omega, rfl, Own.nil _ _ _, rfl, k2, hbw1, by omega⟩
  case round =>
    obtain ⟨k, hk, rfl, hown, hok, kq, hbr, hsr⟩ := hrel
    obtain ⟨kk, hkk⟩ : ∃ j, 5 + 2 * k = j := ⟨_, rfl⟩
    rw [hkk]
    by_cases hlt : k < m
    · have hd : decide ((kk : Int) < (s.length : Int)) = true := decide_eq_true (by have := HMC.out; omega)
      have hd' : decide (kk < s.length) = true := decide_eq_true (by have := HMC.out; omega)
      have hrl := HRL.out
      obtain ⟨c0, hc0⟩ : ∃ c, r[2 * k]? = some c := ⟨_, List.getElem?_eq_getElem (by omega)⟩
      obtain ⟨c1, hc1⟩ : ∃ c, r[2 * k + 1]? = some c := ⟨_, List.getElem?_eq_getElem (by omega)⟩
      have hi0 := HAT.out _ _ hc0
      have hi1 := HAT.out _ _ hc1
      rw [hkk] at hi0
      rw [show 5 + (2 * k + 1) = kk + 1 by omega] at hi1
      have htk : r.take (2 * (k + 1)) = r.take (2 * k) ++ [c0, c1] := by
        rw [show 2 * (k + 1) = 2 * k + 1 + 1 by omega, List.take_add_one, List.take_add_one, hc0, hc1]
        simp
      have htl : (r.take (2 * k)).length = 2 * k := by rw [List.length_take]; omega
      have HTK := Lib.hid htk
      have HC0 := Lib.hid hc0
      have HC1 := Lib.hid hc1
      have hadd : ∀ W, (binOp .add 3 (.int .i64 (kk : Int)) (.int .i64 1)).run Tryz.prog W = .ok (.int .i64 ((kk + 1 : Nat) : Int)) W := fun W => by
        have h' : (binOp .add 3 (.int .i64 (kk : Int)) (.int .i64 1)).run Tryz.prog W = .ok (.int .i64 (IntKind.i64.wrap ((kk : Int) + 1))) W := by kernel_rfl
        rw [h', show (kk : Int) + 1 = ((kk + 1 : Nat) : Int) from by omega, IntWalk.i64_in _ (by omega)]
      clear hc0 hc1 htk
      go_upto_region 7 with fail
      refine wp_region_list [Pr.eq (.string ⟨s.toArray⟩), Pr.eq (.int .i64 (kk : Int)), Pr.eq (.int .u8 (c0.toNat : Int)), Pr.eq (.int .i64 (dig c0)), Pr.eq (.string ⟨s.toArray⟩), Pr.eq (.int .i64 (kk : Int)), Pr.eq (.int .i64 ((kk + 1 : Nat) : Int)), Pr.eq (.int .u8 (c1.toNat : Int)), Pr.eq (.int .i64 (dig c1)), Pr.eq (.int .i64 (dig c0)), Pr.eq (.int .i64 (dig c1))] (by kernel_rfl) (by kernel_rfl) (by kernel_rfl) (by kernel_rfl) ⟨?_, ?_, ?_, ?_, ?_, ?_, ?_, ?_, ?_, ?_, ?_, trivial⟩ ?_
      · exact fun ac W hL he => stepOk_want rfl (op_move rfl (he.keep (.tmp 0) (by kernel_rfl)))
      · exact fun ac W hL he => stepOk_want rfl (op_move rfl (he.keep (.tmp 5) (by kernel_rfl)))
      · exact fun ac W hL he => stepOk_want rfl (op_index rfl (he.get 0 37 (by kernel_rfl) rfl) (he.get 1 38 (by kernel_rfl) rfl) (hi0 W) rfl)
      · intro ac W hL he; refine stepOk_want rfl ?_; have e0 : ac.eval (.tmp 39) = .int .u8 (c0.toNat : Int) := (he.get 2 39 (by kernel_rfl) rfl); exact op_callF (vs := #[.int .u8 (c0.toNat : Int)]) rfl (by simp only [List.map_toArray, List.map_cons, List.map_nil, e0]) (enters_of Tryz.func69 (by kernel_rfl) rfl) (((digit_any25 c0 W)).mono fun e W' ⟨he', hw'⟩ => ⟨_, he', hw' ▸ Later.refl _, rfl⟩)
      · exact fun ac W hL he => stepOk_want rfl (op_move rfl (he.keep (.tmp 0) (by kernel_rfl)))
      · exact fun ac W hL he => stepOk_want rfl (op_move rfl (he.keep (.tmp 5) (by kernel_rfl)))
      · exact fun ac W hL he => stepOk_want rfl (op_binOp rfl (he.get 5 42 (by kernel_rfl) rfl) rfl (eqg_any rfl) (hadd W) rfl)
      · exact fun ac W hL he => stepOk_want rfl (op_index rfl (he.get 4 41 (by kernel_rfl) rfl) (he.get 6 43 (by kernel_rfl) rfl) (hi1 W) rfl)
      · intro ac W hL he; refine stepOk_want rfl ?_; have e0 : ac.eval (.tmp 44) = .int .u8 (c1.toNat : Int) := (he.get 7 44 (by kernel_rfl) rfl); exact op_callF (vs := #[.int .u8 (c1.toNat : Int)]) rfl (by simp only [List.map_toArray, List.map_cons, List.map_nil, e0]) (enters_of Tryz.func69 (by kernel_rfl) rfl) (((digit_any25 c1 W)).mono fun e W' ⟨he', hw'⟩ => ⟨_, he', hw' ▸ Later.refl _, rfl⟩)
      · exact fun ac W hL he => stepOk_want rfl (op_assign rfl (he.get 3 40 (by kernel_rfl) rfl))
      · exact fun ac W hL he => stepOk_want rfl (op_assign rfl (he.get 8 45 (by kernel_rfl) rfl))
      intro xs W2 hL2 hx
      have v9 : xs 9 = .int .i64 (dig c0) := hx 9 (by decide)
      have v10 : xs 10 = .int .i64 (dig c1) := hx 10 (by decide)
      simp only [putL, Nat.reduceAdd, Act.put, List.setIfInBounds_toArray, List.set_cons_succ, List.set_cons_zero]
      rw [v9, v10]
      clear hx v9 v10 hi0 hi1 hadd
      have kq2 := kq.later hL2
      have hbr2 := hbr.trans (hL2.below.mono hbr.size)
      have hsr2 : q + 1 ≤ W2.heap.size := Nat.le_trans hsr hL2.size
      have hown2 := hown.later hL2
      obtain ⟨wst, hst, kst, hgst⟩ := storeInv noHop_wf noHop_wf kq2
      have hbst : Below w.heap.size w wst := Below.grown hbr2 hgst hbr2.size (fun j e => by cases e; exact Nat.le_of_eq HQ.out.symm)
      have HGS := Lib.hid hgst
      clear hgst
      by_cases hd0 : 0 ≤ dig c0
      case neg =>
        have hz : decide (dig c0 < 0) = true := decide_eq_true (by omega)
        have hno : okText s = false := by
          rw [HOT.out]
          have : hexOk r = false := by
            unfold hexOk
            rw [List.all_eq_false]
            exact ⟨c0, List.mem_of_getElem? HC0.out, by simpa using hd0⟩
          rw [this]
          rfl
        go_wp2_with (first | (guard_target =~ wpList _ _ _ (_ :: _) _ _; refine wpList_build rfl 51 _ rfl #[] (by simp only [List.map_toArray, List.map_nil]) (buildInv0 _) ?_) | (guard_target =~ wpList _ _ _ (_ :: _) _ _; refine wpList_store rfl 51 (.tmp 2) (.tmp 52) rfl (.pointer (some ⟨q, 0, none⟩)) (.agg (hopC noHop)) rfl rfl hst ?_) | fail)
        exact bodyPost_ret (results_cell_tmp rfl _ _ q 51 (hopC noHop) (0, 0) _ (.int .i64 351) rfl rfl kst Tryz.underlying51 rfl (by rw [hopC_size noHop_wf]; exact infoInv)) rfl (HNO.out hno _ hbst)
      have hz0 : decide (dig c0 < 0) = false := decide_eq_false (by omega)
      by_cases hd1 : 0 ≤ dig c1
      case neg =>
        have hz : decide (dig c1 < 0) = true := decide_eq_true (by omega)
        have hno : okText s = false := by
          rw [HOT.out]
          have : hexOk r = false := by
            unfold hexOk
            rw [List.all_eq_false]
            exact ⟨c1, List.mem_of_getElem? HC1.out, by simpa using hd1⟩
          rw [this]
          rfl
        go_wp2_with (first | (guard_target =~ wpList _ _ _ (_ :: _) _ _; refine wpList_build rfl 51 _ rfl #[] (by simp only [List.map_toArray, List.map_nil]) (buildInv0 _) ?_) | (guard_target =~ wpList _ _ _ (_ :: _) _ _; refine wpList_store rfl 51 (.tmp 2) (.tmp 52) rfl (.pointer (some ⟨q, 0, none⟩)) (.agg (hopC noHop)) rfl rfl hst ?_) | fail)
        exact bodyPost_ret (results_cell_tmp rfl _ _ q 51 (hopC noHop) (0, 0) _ (.int .i64 351) rfl rfl kst Tryz.underlying51 rfl (by rw [hopC_size noHop_wf]; exact infoInv)) rfl (HNO.out hno _ hbst)
      have hz1 : decide (dig c1 < 0) = false := decide_eq_false (by omega)
      clear hst kst hbst
      obtain ⟨n0, hn0, hn0b⟩ := dig_nat hd0
      obtain ⟨n1, hn1, hn1b⟩ := dig_nat hd1
      have hun : unhex [c0, c1] = [UInt8.ofNat (16 * n0 + n1)] := by
        unfold unhex
        rw [hn0, hn1, Int.toNat_natCast, Int.toNat_natCast, Nat.mul_comm]
        rfl
      have hok2 : hexOk (r.take (2 * (k + 1))) = true := by
        rw [HTK.out]
        unfold hexOk at hok ⊢
        rw [List.all_append, hok]
        simp [hd0, hd1]
      have hux : unhex (r.take (2 * (k + 1))) = unhex (r.take (2 * k)) ++ [UInt8.ofNat (16 * n0 + n1)] := by
        rw [HTK.out, unhex_app _ _ (by rw [htl]; omega), hun]
      have HUX := Lib.hid hux
      have HOK2 := Lib.hid hok2
      have hul : (unhex (r.take (2 * k))).length ≤ 1000 := by rw [unhex_len, htl]; omega
      have hmul : ∀ W, (binOp .mul 3 (.int .i64 16) (.int .i64 (n0 : Int))).run Tryz.prog W = .ok (.int .i64 ((16 * n0 : Nat) : Int)) W := fun W => by
        have h' : (binOp .mul 3 (.int .i64 16) (.int .i64 (n0 : Int))).run Tryz.prog W = .ok (.int .i64 (IntKind.i64.wrap (16 * (n0 : Int)))) W := by kernel_rfl
        rw [h', show (16 : Int) * (n0 : Int) = ((16 * n0 : Nat) : Int) from by omega, IntWalk.i64_in _ (by omega)]
      have hsum : ∀ W, (binOp .add 3 (.int .i64 ((16 * n0 : Nat) : Int)) (.int .i64 (n1 : Int))).run Tryz.prog W = .ok (.int .i64 ((16 * n0 + n1 : Nat) : Int)) W := fun W => by
        have h' : (binOp .add 3 (.int .i64 ((16 * n0 : Nat) : Int)) (.int .i64 (n1 : Int))).run Tryz.prog W = .ok (.int .i64 (IntKind.i64.wrap (((16 * n0 : Nat) : Int) + (n1 : Int)))) W := by kernel_rfl
        rw [h', show ((16 * n0 : Nat) : Int) + (n1 : Int) = ((16 * n0 + n1 : Nat) : Int) from by omega, IntWalk.i64_in _ (by omega)]
      have hz : 16 * n0 + n1 < 256 := by omega
      rw [hn0] at hz0 ⊢
      rw [hn1] at hz1 ⊢
      clear hux hok2 hun hn0 hn1 hd0 hd1 htl
      go_upto_region 10 with fail
      obtain ⟨z1, hz1'⟩ : ∃ z, 16 * n0 = z := ⟨_, rfl⟩
      rw [hz1'] at hmul hsum hz HUX
      obtain ⟨z, hzz⟩ : ∃ y, z1 + n1 = y := ⟨_, rfl⟩
      rw [hzz] at hsum hz HUX
      have hcv := fun W => conv25 z hz W
      have hrz := fun W => Rd.byte1 (w := W) (t := 5) (z := (z : Int)) (c := UInt8.ofNat z) (by rw [UInt8.toNat_ofNat']; omega)
      clear hz1' hzz
      have HRZ := Lib.hid hrz
      clear hrz hL2
      go_wp2_with (first
        | (guard_target =~ wpList _ _ _ (_ :: _) _ _; refine wpList_binop rfl .mul 3 3 (.const (.int .i64 16)) (.tmp 54) rfl (.int .i64 16) (.int .i64 (n0 : Int)) rfl rfl (eqg_any rfl) (hmul _) ?_)
        | (guard_target =~ wpList _ _ _ (_ :: _) _ _; refine wpList_binop rfl .add 3 3 (.tmp 55) (.tmp 56) rfl (.int .i64 (z1 : Int)) (.int .i64 (n1 : Int)) rfl rfl (eqg_any rfl) (hsum _) ?_)
        | (guard_target =~ wpList _ _ _ (_ :: _) _ _; refine wpList_conv rfl 3 5 (.tmp 57) rfl (.int .i64 (z : Int)) rfl (hcv _) ?_)
        | (guard_target =~ wpList _ _ _ (_ :: _) _ _; refine wpList_buildSl rfl 60 1 #[(0, .tmp 58)] rfl #[(0, .int .u8 (z : Int))] (by simp only [List.map_toArray, List.map_cons, List.map_nil]; rfl) (build1B _ _) ?_; simp only [Act.put, List.setIfInBounds_toArray, List.set_cons_zero, List.set_cons_succ])
        | (guard_target =~ wpList _ _ _ (_ :: _) _ _; refine wpList_append_bytes rfl (.tmp 53) (.tmp 59) 60 rfl (q + 1) 5 Tryz.underlying60 byteInfo _ (unhex (r.take (2 * k))) rfl (hown2.alloc _) (some ⟨W2.heap.size, 0, none⟩) 1 1 [UInt8.ofNat z] rfl rfl (HRZ.out W2) (by omega) (by simp; omega) fun v9 w9 hown9 hg9 _ => ?_)
        | fail)
      go_roundw
      case rel =>
        have hmm := HQ1.out
        rw [← HUX.out] at hown9
        have hg2 : W2.heap.size ≤ (W2.alloc (.cells #[.int .u8 (z : Int)] 5)).heap.size := by simp
        refine ⟨k + 1, by omega, by go_num, hown9, HOK2.out, ?_, ?_, Nat.le_trans hsr2 (Nat.le_trans hg2 hg9.size)⟩
        · exact (kq2.alloc _).grown hg9 (fun e => by have := ((hown2.alloc (.cells #[.int .u8 (z : Int)] 5)).at_ q e.symm).1; omega)
        · have hQ := HQ.out
          exact (hbr2.alloc hbr2.size _).grown hg9 (Nat.le_trans hbr2.size hg2) (fun j e => by have := ((hown2.alloc (.cells #[.int .u8 (z : Int)] 5)).at_ j e).1; omega)
      case measure =>
        have := HMC.out
        simp [intOf]
        omega
    · obtain rfl : k = m := by omega
      have hd : decide ((kk : Int) < (s.length : Int)) = false := decide_eq_false (by have := HMC.out; omega)
      have hd' : decide (kk < s.length) = false := decide_eq_false (by have := HMC.out; omega)
      rw [List.take_of_length_le (by rw [HRL.out]; exact Nat.le_refl _)] at hown hok
      have HOT2 : Hid (okText s = decide (openE (unhex r) = 0)) := Lib.hid (by rw [HOT.out, hok]; rfl)
      obtain ⟨A4, c4, rfl, hc4, hm4, hrd4⟩ := hown.slice
      have hul : (unhex r).length ≤ 150 := by rw [unhex_len, HRL.out]; omega
      have hop := refOpenC_any A4 (unhex r).length c4 (unhex r) wr rfl (by omega) hc4 (Nat.le_trans hm4 (by decide)) hrd4
      have HRD := Lib.hid hrd4
      have KQ := Lib.hid kq
      have HBR := Lib.hid hbr
      clear hown hc4 hm4 hrd4 kq hbr hok k2 hb
      go_upto_region 11 with fail
      go_upto_region 12 with (first
        | (go_at_call 70; refine hop.mono ?_; clear hop; rintro e w3 ⟨A5, c5, rfl, hc5, hm5, hD5, hb3⟩)
        | fail)
      have kq3 := KQ.out.belowAll hb3
      have hb03 := HBR.out.trans (hb3.mono HBR.out.size)
      have hqw : w.heap.size ≤ q := Nat.le_of_eq HQ.out.symm
      by_cases h0 : openE (unhex r) = 0
      case neg =>
        have h0' : (openE (unhex r) == 0) = false := by simpa using h0
        have hno : okText s = false := by rw [HOT2.out, decide_eq_false h0]
        obtain ⟨wst, hst, kst, hgst⟩ := storeInv noHop_wf noHop_wf kq3
        have hbst : Below w.heap.size w wst := Below.grown hb03 hgst hb03.size (fun j e => by cases e; exact hqw)
        clear hgst kq3 hb03
        go_wp2_with (first | (guard_target =~ wpList _ _ _ (_ :: _) _ _; refine wpList_build rfl 51 _ rfl #[] (by simp only [List.map_toArray, List.map_nil]) (buildInv0 _) ?_) | (guard_target =~ wpList _ _ _ (_ :: _) _ _; refine wpList_store rfl 51 (.tmp 2) (.tmp 68) rfl (.pointer (some ⟨q, 0, none⟩)) (.agg (hopC noHop)) rfl rfl hst ?_) | fail)
        exact bodyPost_ret (results_cell_tmp rfl _ _ q 51 (hopC noHop) (0, 0) _ (.int .i64 351) rfl rfl kst Tryz.underlying51 rfl (by rw [hopC_size noHop_wf]; exact infoInv)) rfl (HNO.out hno _ hbst)
      rename_i K2 hK2 K1 hK1
      have HK2 := Lib.hid hK2
      clear hK2
      have hrd5 := hD5 w3 (HRD.out.below hb3)
      have hbl : (openB (unhex r)).length ≤ 1000 := by
        unfold openB
        split
        · rw [List.length_take]; omega
        · simp
      have hps : Rt.parse s = parsedB (openB (unhex r)) := by
        unfold Rt.parse
        rw [HOT2.out, HRR.out, decide_eq_true h0, if_pos rfl]
      rw [h0]
      have HKQ := Lib.hid kq3
      have HB3 := Lib.hid hb03
      have HRD5 := Lib.hid hrd5
      have HC5 := Lib.hid hc5
      have HM5 := Lib.hid hm5
      clear kq3 hb03 hrd5 hc5 hm5 hD5 hb3 h0
      go_wp2_with fail
      refine HK2.out _ _ (refParse_tail _ (by kernel_rfl) w w3 q _ c5 A5 (openB (unhex r)) rfl hbl HC5.out HM5.out HRD5.out HKQ.out HB3.out hqw _ (fun a' W' hd6 h2 h3 hR LR => ?_) _ _ _ _ _ _ _ _ _ _ _ _ _ _ _ _ _ _ _ _ _ _ _ _ _ _ _ _ _ _ _ _ _ _ _ _ _ _ _ _ _ _ _ _ _ _ _ _ _ _ _ _ _ _ _ _ _ _ _ _ _ _ _ _ _ _ _ _ _ _ _ _ _ _ _ _ _ _ _ _ _ _ _ _ _ _ _ _ _ _ _ _ _ _ _ _ _ _ _ _ _ _ _ _ _ _ _ _ _ _ _ _)
      exact bodyPost_ret (results_cell_tmp rfl _ _ q 51 (hopC (Rt.parse s).1) (0, 0) _ (.int .i64 (Rt.parse s).2) h2 (by rw [hps]; exact h3) (by rw [hps]; exact hR) Tryz.underlying51 rfl (by rw [hopC_size (parse_wf s)]; exact infoInv)) hd6 (HΦ.out _ _ ⟨rfl, LR⟩)
end Go.Proofs.YtloiaaolnfimgaaGreat
