/- HmacRights: the walk. -/
import Derived.Test.YtbjclmfhmdalkaaOpenC
set_option linter.unusedVariables false
set_option linter.unusedSimpArgs false
namespace Go.Proofs.Ytbjclmfhmdalkaa
open Go.RowKit
theorem eqg_bb {x y : Operand} {a b : Bool} {W : World} : (eqGuard .eql 4 x y (.bool a) (.bool b)).run Try.prog W = .ok () W := by kernel_rfl
theorem eqB (a : Bool) (W : World) : (binOp .eql 4 (.bool a) (.bool a)).run Try.prog W = .ok (.bool true) W := by
  go_simp
theorem eqg_88 {x y : Operand} {a b : Int} {W : World} : (eqGuard .eql 5 x y (.int .u8 a) (.int .u8 b)).run Try.prog W = .ok () W := by kernel_rfl
theorem eq80 (c : UInt8) (W : World) : (binOp .eql 5 (.int .u8 (c.toNat : Int)) (.int .u8 0)).run Try.prog W = .ok (.bool (c == 0)) W := by
  have e : ((c.toNat : Int) == 0) = (c == 0) := by
    by_cases h : c = 0
    · subst h; rfl
    · have h1 : c.toNat ≠ 0 := fun e => h (UInt8.toNat_inj.1 e)
      rw [beq_eq_false_iff_ne.2 h]
      rw [beq_eq_false_iff_ne]
      omega
  go_simp
  try rw [← e]
  try rfl
theorem idxHp2 {b j : Nat} {W : World} (h : j < 32) : (Instr.indexAt 25 (.pointer (some ⟨b, 0, none⟩)) (.int .i64 (j : Int))).run Try.prog W = .ok (.pointer (some ⟨b, j, none⟩)) W := by
  have h1 : (j : Int) < 32 := by omega
  go_simp
theorem hC_setB (T : List UInt8) (i : Nat) (x : UInt8) (hT : T.length = 32) : (hC T).setIfInBounds i (byteV x) = hC (T.set i x) := by
  rw [hC_full T hT, hC_full (T.set i x) (by simpa using hT), List.setIfInBounds_toArray, List.map_set]
theorem hC_at (T : List UInt8) (i : Nat) (hT : T.length = 32) (h : i < T.length) : (hC T)[i]? = some (.int .u8 (T[i].toNat : Int)) := by
  rw [hC_full T hT]
  simp [h]
theorem set_eq (T : List UInt8) (i : Nat) (c : UInt8) (h : i < T.length) : (T == T.set i (T[i] + c)) = (c == 0) := by
  by_cases hc : c = 0
  · subst hc
    have : T.set i (T[i] + 0) = T := by
      rw [UInt8.add_zero]
      exact List.set_getElem_self h
    rw [this]
    simp
  · rw [beq_eq_false_iff_ne.2 hc, beq_eq_false_iff_ne]
    intro e
    have h1 : T[i]? = (T.set i (T[i] + c))[i]? := congrArg (fun l => l[i]?) e
    rw [List.getElem?_set_self h, List.getElem?_eq_getElem h] at h1
    injection h1 with h1
    apply hc
    have h2 : T[i] + 0 = T[i] + c := by rw [UInt8.add_zero]; exact h1
    exact ((UInt8.add_right_inj _).1 h2).symm
theorem beq_swap (a b : List UInt8) : (a == b) = (b == a) := by
  by_cases h : a = b
  · subst h; rfl
  · rw [beq_eq_false_iff_ne.2 h, beq_eq_false_iff_ne.2 (fun e => h e.symm)]
theorem add8 (a c : UInt8) : ((a.toNat : Int) + (c.toNat : Int)) % 256 = ((a + c).toNat : Int) := by
  rw [UInt8.toNat_add]
  omega
set_option maxRecDepth 100000 in
set_option maxHeartbeats 2000000 in
theorem hmacRights_main (A : Option Addr) (n ca : Nat) (key : List UInt8) (B : Option Addr) (m cb : Nat) (ls : List (List UInt8)) (i : Nat) (c : UInt8) (x : List UInt8) (w : World) (hn : key.length = n) (hc : n ≤ ca) (hcm : ca ≤ 9223372036854775807) (hr : Rd w A key)
    (hls : ls.length = m) (hm : m ≤ 9223372036854775807) (hrs : RdsC w B ls) (hx : x.length = 32) (hn3 : n ≤ 300) (hi : i < 32) (hf : fits ls 15) :
    Calls Try.prog 3 #[.slice A n ca, .slice B m cb, .int .i64 (i : Int), .int .u8 (c.toNat : Int), .agg (hC x)] w fun e w' => e = .returned (.bool true) ∧ Below w.heap.size w w' := by
  have hd1 : decide (300 < n) = false := by simp; omega
  have hd1' : decide ((300 : Int) < (n : Int)) = false := by simp; omega
  have hd2 : decide ((i : Int) < 0) = false := by simp
  have hd3 : decide ((31 : Int) < (i : Int)) = false := by simp; omega
  have hd3' : decide (31 < i) = false := by simp; omega
  have hfl := fits_len hf
  obtain ⟨T, hT⟩ : ∃ q, Hm.tag key ls.flatten = q := ⟨_, rfl⟩
  have hTl : T.length = 32 := by rw [← hT]; exact Hm.tag_len _ _
  have hrow9 := Row.new w 25 (hC x)
  have hL1 := (Later.refl w).alloc (.cells (hC x) 25)
  have hfew := few_any B m cb ls 15 (w.alloc (.cells (hC x) 25)) hls (by decide) hm (hrs.below hL1)
  have HN := Lib.hid hn
  have HX := Lib.hid hx
  have HTL := Lib.hid hTl
  have HT := Lib.hid hT
  have HF := Lib.hid hf
  have HFL := Lib.hid hfl
  have HLS := Lib.hid hls
  clear hn hx hTl hT hf hfl hls
  go_enter Try.func3, Try.ntmps3
  go_upto_region 1 with (first
    | (refine wpList_box rfl 25 (.tmp 4) rfl (.agg (hC x)) rfl (boxH x HX.out _) ?_)
    | fail)
  obtain ⟨g9, hg9⟩ : ∃ q, q = w.heap.size := ⟨_, rfl⟩
  rw [← hg9] at hrow9 ⊢
  clear hg9
  generalize w.alloc (.cells (hC x) 25) = w1 at *
  go_upto_region 2 with (first
    | (go_at_call 9; refine hfew.mono ?_; clear hfew; rintro e w2 ⟨⟨_, v, rfl, hown⟩ | ⟨hno, _⟩, hb2⟩; rotate_left; exact absurd HF.out hno)
    | fail)
  obtain ⟨A2, c2, rfl, h21, h22, h2r⟩ := hown.slice
  have hL2 : Later w1 w2 := hb2
  have hLw2 := hL1.step hL2
  have hr9 := hrow9.later hL2
  obtain ⟨fl, hfl⟩ : ∃ q, ls.flatten = q := ⟨_, rfl⟩
  rw [hfl] at h2r HT HFL
  rw [hfl]
  have HFE := Lib.hid hfl
  have htag := refTag_any A n ca key A2 fl.length c2 fl w2 HN.out rfl (by omega) (by have := HFL.out; omega) hc hcm (hr.later hLw2) h2r
  rw [HT.out] at htag
  clear hown hb2 hL2 hL1 hrow9 h2r hfl h21 h22
  go_upto_region 5 with (first
    | (go_at_call 11; refine htag.mono ?_; clear htag; rintro e w3 ⟨rfl, hb3⟩; obtain ⟨w4, hst4, hr13, hg4⟩ := storeH (a := []) (b := T) (by simp) (by rw [HTL.out]; omega) (Row.new w3 25 (hC [])))
    | (with_reducible refine wpList_alloc rfl 25 rfl (allocH _) ?_)
    | (refine wpList_store rfl 25 (.tmp 13) (.tmp 38) rfl (.pointer (some ⟨w3.heap.size, 0, none⟩)) (.agg (hC T)) rfl rfl hst4 ?_)
    | fail)
  have hL3 : Later w2 w3 := hb3
  have hL4 : Later w2 w4 := Below.grown (hL3.alloc _) hg4 (by have := hL3.size; simp only [World.size_alloc]; omega) (fun j e => by cases e; exact hL3.size)
  obtain ⟨g13, hg13⟩ : ∃ q, q = w3.heap.size := ⟨_, rfl⟩
  rw [← hg13] at hr13 ⊢
  have hr94 := hr9.later hL4
  have hLw4 := hLw2.step hL4
  clear hst4 hg4 hg13 hL3 hb3 hL4 hr9 hLw2
  obtain ⟨w5, hst5, hr14, hg5⟩ := storeH (a := []) (b := T) (by simp) (by rw [HTL.out]; omega) (Row.new w4 25 (hC []))
  go_upto_region 6 with (first
    | (refine wpList_load rfl 25 (.tmp 13) rfl (.pointer (some ⟨g13, 0, none⟩)) rfl (loadH HTL.out hr13) ?_)
    | (with_reducible refine wpList_alloc rfl 25 rfl (allocH _) ?_)
    | (refine wpList_store rfl 25 (.tmp 14) (.tmp 39) rfl (.pointer (some ⟨w4.heap.size, 0, none⟩)) (.agg (hC T)) rfl rfl hst5 ?_)
    | fail)
  have hL5 : Later w4 w5 := Below.grown ((Later.refl w4).alloc _) hg5 (by simp only [World.size_alloc]; omega) (fun j e => by cases e; exact Nat.le_refl _)
  obtain ⟨g14, hg14⟩ : ∃ q, q = w4.heap.size := ⟨_, rfl⟩
  have hne9 : g9 ≠ g14 := by have := hr94.lt; omega
  have hne13 : g13 ≠ g14 := by have := hr13.lt; omega
  have hw14 : w.heap.size ≤ g14 := by rw [hg14]; exact hLw4.size
  rw [← hg14] at hr14 ⊢
  have hr95 := hr94.later hL5
  have hr135 := hr13.later hL5
  have hLw5 := hLw4.step hL5
  have hiT : i < T.length := by rw [HTL.out]; exact hi
  have hcell := (hr14.cell i).trans (hC_at T i HTL.out hiT)
  have hfro := hr14.frozen i
  have hset := hC_setB T i (T[i] + c) HTL.out
  have hseq := set_eq T i c hiT
  have hUl : (T.set i (T[i] + c)).length = 32 := by rw [List.length_set]; exact HTL.out
  obtain ⟨U, hU⟩ : ∃ q, T.set i (T[i] + c) = q := ⟨_, rfl⟩
  rw [hU] at hset hseq hUl
  obtain ⟨a, ha⟩ : ∃ q, T[i] = q := ⟨_, rfl⟩
  rw [ha] at hcell hset
  have hadd := add8 a c
  have HSET := Lib.hid hset
  have HSEQ := Lib.hid hseq
  have HUL := Lib.hid hUl
  have hst8 : (Instr.storeAt 5 (.pointer (some ⟨g14, i, none⟩)) (.int .u8 (((a.toNat : Int) + (c.toNat : Int)) % 256))).run Try.prog w5 = .ok () (w5.setCell ⟨g14, i, none⟩ (byteV (a + c))) := by
    rw [hadd]
    exact store8 hcell hfro
  have HST8 := Lib.hid hst8
  have hal := a.toNat_lt
  have hcl := c.toNat_lt
  clear hst8 hadd hst5 hg5 hg14 hL5 hr94 hr13 hLw4 hset hseq hUl hU ha hiT
  go_upto_region 7 with (first
    | (refine wpList_store rfl 5 (.tmp 46) (.tmp 45) rfl (.pointer (some ⟨g14, i, none⟩)) (.int .u8 (((a.toNat : Int) + (c.toNat : Int)) % 256)) rfl rfl HST8.out ?_)
    | fail)
  have hr14s := hr14.set i (byteV (a + c))
  rw [HSET.out] at hr14s
  have hgs := grown_set w5 g14 i (byteV (a + c))
  have hr96 := hr95.grown hgs (by intro e; injection e with e; exact hne9 e)
  have hr136 := hr135.grown hgs (by intro e; injection e with e; exact hne13 e)
  have hLw6 : Later w (w5.setCell ⟨g14, i, none⟩ (byteV (a + c))) := Below.setCell hLw5 (p := ⟨g14, i, none⟩) hw14 _
  clear hcell hfro hgs hr95 hr135 hLw5 hr14 HST8
  generalize w5.setCell ⟨g14, i, none⟩ (byteV (a + c)) = w6 at *
  have hr146 := hr14s
  obtain ⟨b0, hb0⟩ : ∃ q, (c == 0) = q := ⟨_, rfl⟩
  obtain ⟨b1, hb1⟩ : ∃ q, (T == x) = q := ⟨_, rfl⟩
  have h80 := fun W => eq80 c W
  rw [hb0] at h80
  have hm15 : m ≤ 15 := by rw [← HLS.out]; exact HF.out.1
  have hxt := fun W => eqlHash x T HX.out HTL.out W
  rw [beq_swap x T, hb1] at hxt
  have hru : ∀ W, Later w6 W → Calls Try.prog 12 #[.slice A n ca, .agg (hC U), .slice B m cb] W fun e w' => e = .returned (.bool b0) ∧ Below W.heap.size W w' := fun W hL => by
    have := right_any A n ca key U B m cb ls W HN.out hc hcm (by omega) (hr.later (hLw6.step hL)) HUL.out HLS.out (by omega) (by rw [HFE.out]; have := HFL.out; omega) (hrs.below (hLw6.step hL))
    rwa [HFE.out, HT.out, HSEQ.out, hb0] at this
  have hrx : ∀ W, Later w6 W → Calls Try.prog 12 #[.slice A n ca, .agg (hC x), .slice B m cb] W fun e w' => e = .returned (.bool b1) ∧ Below W.heap.size W w' := fun W hL => by
    have := right_any A n ca key x B m cb ls W HN.out hc hcm (by omega) (hr.later (hLw6.step hL)) HX.out HLS.out (by omega) (by rw [HFE.out]; have := HFL.out; omega) (hrs.below (hLw6.step hL))
    rwa [HFE.out, HT.out, hb1] at this
  have HRU := Lib.hid hru
  have HRX := Lib.hid hrx
  have HXT := Lib.hid hxt
  have H80 := Lib.hid h80
  clear hru hrx hxt h80 hb0 hb1 HSEQ HFE HFL
  refine (wpIn_wide (n := 0)).1 ?_
  refine wpIn_region_vals wide_wide [Pr.eq (.slice A n ca), Pr.eq (.agg (hC U)), Pr.eq (.slice B m cb), Pr.eq (.bool b0), Pr.eq (.int .u8 (c.toNat : Int)), Pr.eq (.bool b0), Pr.eq (.bool true), Pr.eq (.bool true), Pr.eq (.slice A n ca), Pr.eq (.agg (hC x)), Pr.eq (.slice B m cb), Pr.eq (.bool b1), Pr.eq (.agg (hC x)), Pr.eq (.agg (hC T)), Pr.eq (.bool b1), Pr.eq (.bool true), Pr.eq (.bool true), Pr.eq (.bool true), Pr.eq (.bool true), Pr.eq (.bool true), Pr.eq (.bool true)] (by kernel_rfl) (by kernel_rfl) (by kernel_rfl) (by kernel_rfl) (by kernel_rfl) ⟨?_, ?_, ?_, ?_, ?_, ?_, ?_, ?_, ?_, ?_, ?_, ?_, ?_, ?_, ?_, ?_, ?_, ?_, ?_, ?_, ?_, trivial⟩ ?_
  · exact fun ac W hL he => stepOk_want rfl (op_move rfl (he.keep (.tmp 0) (by kernel_rfl)))
  · exact fun ac W hL he => stepOk_want rfl (op_load rfl (he.keep (.tmp 14) (by kernel_rfl)) (loadH HUL.out (hr146.later hL)) rfl)
  · exact fun ac W hL he => stepOk_want rfl (op_move rfl (he.keep (.tmp 1) (by kernel_rfl)))
  · intro ac W hL he; refine stepOk_want rfl ?_; have e0 : ac.eval (.tmp 47) = (.slice A n ca) := (he.get 0 47 (by kernel_rfl) rfl); have e1 : ac.eval (.tmp 48) = (.agg (hC U)) := (he.get 1 48 (by kernel_rfl) rfl); have e2 : ac.eval (.tmp 49) = (.slice B m cb) := (he.get 2 49 (by kernel_rfl) rfl); exact op_callF (vs := #[.slice A n ca, .agg (hC U), .slice B m cb]) rfl (by simp only [List.map_toArray, List.map_cons, List.map_nil, e0, e1, e2]) (enters_of Try.func12 (by kernel_rfl) rfl) ((HRU.out W hL).mono fun e W' ⟨he', hb⟩ => ⟨_, he', hb, rfl⟩)
  · exact fun ac W hL he => stepOk_want rfl (op_move rfl (he.keep (.tmp 3) (by kernel_rfl)))
  · exact fun ac W hL he => stepOk_want rfl (op_binOp rfl (he.get 4 51 (by kernel_rfl) rfl) rfl eqg_88 (H80.out W) rfl)
  · exact fun ac W hL he => stepOk_want rfl (op_binOp rfl (he.get 3 50 (by kernel_rfl) rfl) (he.get 5 52 (by kernel_rfl) rfl) eqg_bb (eqB b0 W) rfl)
  · exact fun ac W hL he => stepOk_want rfl (op_move rfl (he.get 6 53 (by kernel_rfl) rfl))
  · exact fun ac W hL he => stepOk_yes (j := 7) (t := 54) (b := true) rfl rfl (he.get 7 54 (by kernel_rfl) rfl) (op_move rfl (he.keep (.tmp 0) (by kernel_rfl)))
  · exact fun ac W hL he => stepOk_yes (j := 7) (t := 54) (b := true) rfl rfl (he.get 7 54 (by kernel_rfl) rfl) (op_load rfl (he.keep (.tmp 9) (by kernel_rfl)) (loadH HX.out (hr96.later hL)) rfl)
  · exact fun ac W hL he => stepOk_yes (j := 7) (t := 54) (b := true) rfl rfl (he.get 7 54 (by kernel_rfl) rfl) (op_move rfl (he.keep (.tmp 1) (by kernel_rfl)))
  · intro ac W hL he; refine stepOk_yes (j := 7) (t := 54) (b := true) rfl rfl (he.get 7 54 (by kernel_rfl) rfl) ?_; have e0 : ac.eval (.tmp 55) = (.slice A n ca) := (he.get 8 55 (by kernel_rfl) rfl); have e1 : ac.eval (.tmp 56) = (.agg (hC x)) := (he.get 9 56 (by kernel_rfl) rfl); have e2 : ac.eval (.tmp 57) = (.slice B m cb) := (he.get 10 57 (by kernel_rfl) rfl); exact op_callF (vs := #[.slice A n ca, .agg (hC x), .slice B m cb]) rfl (by simp only [List.map_toArray, List.map_cons, List.map_nil, e0, e1, e2]) (enters_of Try.func12 (by kernel_rfl) rfl) ((HRX.out W hL).mono fun e W' ⟨he', hb⟩ => ⟨_, he', hb, rfl⟩)
  · exact fun ac W hL he => stepOk_yes (j := 7) (t := 54) (b := true) rfl rfl (he.get 7 54 (by kernel_rfl) rfl) (op_load rfl (he.keep (.tmp 9) (by kernel_rfl)) (loadH HX.out (hr96.later hL)) rfl)
  · exact fun ac W hL he => stepOk_yes (j := 7) (t := 54) (b := true) rfl rfl (he.get 7 54 (by kernel_rfl) rfl) (op_load rfl (he.keep (.tmp 13) (by kernel_rfl)) (loadH HTL.out (hr136.later hL)) rfl)
  · exact fun ac W hL he => stepOk_yes (j := 7) (t := 54) (b := true) rfl rfl (he.get 7 54 (by kernel_rfl) rfl) (op_binOp rfl (he.get 12 59 (by kernel_rfl) rfl) (he.get 13 60 (by kernel_rfl) rfl) (eqgHash _ _ _ _ _ W) (HXT.out W) rfl)
  · exact fun ac W hL he => stepOk_yes (j := 7) (t := 54) (b := true) rfl rfl (he.get 7 54 (by kernel_rfl) rfl) (op_binOp rfl (he.get 11 58 (by kernel_rfl) rfl) (he.get 14 61 (by kernel_rfl) rfl) eqg_bb (eqB b1 W) rfl)
  · exact fun ac W hL he => stepOk_want rfl (op_pick (b := true) rfl (he.get 7 54 (by kernel_rfl) rfl) (he.get 15 62 (by kernel_rfl) rfl))
  · exact fun ac W hL he => stepOk_want rfl (op_move rfl (he.get 16 63 (by kernel_rfl) rfl))
  · intro ac W hL he; refine stepOk_yes (j := 17) (t := 64) (b := true) rfl rfl (he.get 17 64 (by kernel_rfl) rfl) ?_; exact op_callF (vs := #[]) rfl (by simp) (enters_of Try.func10 (by kernel_rfl) rfl) ((works2_yes W).mono fun e W' ⟨he', hb⟩ => ⟨_, he', hb, rfl⟩)
  · exact fun ac W hL he => stepOk_want rfl (op_pick (b := true) rfl (he.get 17 64 (by kernel_rfl) rfl) (he.get 18 65 (by kernel_rfl) rfl))
  · exact fun ac W hL he => stepOk_want rfl (op_assign rfl (he.get 19 66 (by kernel_rfl) rfl))
  intro xs W hL hxs
  have he10 : xs 20 = .bool true := hxs 20 (by decide)
  clear hxs
  simp only [putL, Nat.reduceAdd, Act.put, List.setIfInBounds_toArray, List.set_cons_succ, List.set_cons_zero, he10]
  go_wp2_with fail
  go_ret
  exact ⟨rfl, hLw6.step hL⟩
set_option maxRecDepth 100000 in
set_option maxHeartbeats 2000000 in
theorem hmacRights_out (A : Option Addr) (n ca : Nat) (B : Option Addr) (m cb : Nat) (ls : List (List UInt8)) (i : Int) (c : Int) (x : List UInt8) (w : World) (hnm : n ≤ 9223372036854775807)
    (hls : ls.length = m) (hm : m ≤ 9223372036854775807) (hrs : RdsC w B ls) (hx : x.length = 32) (hout : ¬ fits ls 15 ∨ 300 < n ∨ i < 0 ∨ 31 < i) :
    Calls Try.prog 3 #[.slice A n ca, .slice B m cb, .int .i64 i, .int .u8 c, .agg (hC x)] w fun e w' => e = .returned (.bool true) ∧ Below w.heap.size w w' := by
  have hL1 := (Later.refl w).alloc (.cells (hC x) 25)
  have hfew := few_any B m cb ls 15 (w.alloc (.cells (hC x) 25)) hls (by decide) hm (hrs.below hL1)
  have HX := Lib.hid hx
  by_cases hf : fits ls 15
  · by_cases h1 : 300 < n
    · have hd1 : decide (300 < n) = true := by simpa using h1
      have hd1' : decide ((300 : Int) < (n : Int)) = true := by simp; omega
      go_enter Try.func3, Try.ntmps3
      go_wp2_with (first
        | (refine wpList_box rfl 25 (.tmp 4) rfl (.agg (hC x)) rfl (boxH x HX.out _) ?_)
        | (go_at_call 9; refine hfew.mono ?_; clear hfew; rintro e w2 ⟨⟨_, v, rfl, hown⟩ | ⟨hno, _⟩, hb2⟩; rotate_left; exact absurd hf hno)
        | (go_at_call 10; refine (works2_yes _).mono ?_; rintro e w3 ⟨rfl, hb3⟩)
        | fail)
      go_ret
      exact ⟨rfl, Later.step (hL1.step hb2) hb3⟩
    · have hd1 : decide (300 < n) = false := by simpa using h1
      have hd1' : decide ((300 : Int) < (n : Int)) = false := by simp; omega
      by_cases h2 : i < 0
      · have hd2 : decide (i < 0) = true := by simpa using h2
        go_enter Try.func3, Try.ntmps3
        go_wp2_with (first
          | (refine wpList_box rfl 25 (.tmp 4) rfl (.agg (hC x)) rfl (boxH x HX.out _) ?_)
          | (go_at_call 9; refine hfew.mono ?_; clear hfew; rintro e w2 ⟨⟨_, v, rfl, hown⟩ | ⟨hno, _⟩, hb2⟩; rotate_left; exact absurd hf hno)
          | (go_at_call 10; refine (works2_yes _).mono ?_; rintro e w3 ⟨rfl, hb3⟩)
          | fail)
        go_ret
        exact ⟨rfl, Later.step (hL1.step hb2) hb3⟩
      · have hd2 : decide (i < 0) = false := by simpa using h2
        have h3 : 31 < i := by
          rcases hout with h | h | h | h
          · exact absurd hf h
          · exact absurd h h1
          · exact absurd h h2
          · exact h
        have hd3 : decide (31 < i) = true := by simpa using h3
        go_enter Try.func3, Try.ntmps3
        go_wp2_with (first
          | (refine wpList_box rfl 25 (.tmp 4) rfl (.agg (hC x)) rfl (boxH x HX.out _) ?_)
          | (go_at_call 9; refine hfew.mono ?_; clear hfew; rintro e w2 ⟨⟨_, v, rfl, hown⟩ | ⟨hno, _⟩, hb2⟩; rotate_left; exact absurd hf hno)
          | (go_at_call 10; refine (works2_yes _).mono ?_; rintro e w3 ⟨rfl, hb3⟩)
          | fail)
        go_ret
        exact ⟨rfl, Later.step (hL1.step hb2) hb3⟩
  · clear hout
    go_enter Try.func3, Try.ntmps3
    go_wp2_with (first
      | (refine wpList_box rfl 25 (.tmp 4) rfl (.agg (hC x)) rfl (boxH x HX.out _) ?_)
      | (go_at_call 9; refine hfew.mono ?_; clear hfew; rintro e w2 ⟨⟨hyes, _⟩ | ⟨_, rfl⟩, hb2⟩; exact absurd hyes hf)
      | (go_at_call 10; refine (works2_yes _).mono ?_; rintro e w3 ⟨rfl, hb3⟩)
      | fail)
    go_ret
    exact ⟨rfl, Later.step (hL1.step hb2) hb3⟩
theorem hmacRights_walk (A : Option Addr) (n ca : Nat) (key : List UInt8) (B : Option Addr) (m cb : Nat) (ls : List (List UInt8)) (i : Int) (w2 : (Lit.int .i64 i).wf = true) (c : Int) (w3 : (Lit.int .u8 c).wf = true) (x : List UInt8) (hx : x.length = 32) (w : World) (hi : InBytes w A n ca key) (hj : InRowsC w B m cb ls) :
    Calls Try.prog 3 #[.slice A n ca, .slice B m cb, .int .i64 i, .int .u8 c, .agg (x.map byteV).toArray] w fun e w' => e = .returned (.bool true) ∧ Below w.heap.size w w' := by
  rw [← hC_full x hx]
  have h1 := hi.cap
  have h2 := hi.most
  have h3 := hj.cap
  have h4 := hj.most
  unfold maxLen at h2 h4
  by_cases hout : ¬ fits ls 15 ∨ 300 < n ∨ i < 0 ∨ 31 < i
  · exact hmacRights_out A n ca B m cb ls i c x w (by omega) hj.len (by omega) hj.rd hx hout
  · have hf : fits ls 15 := Classical.byContradiction fun h => hout (.inl h)
    have hc : 0 ≤ c ∧ c < 256 := by
      simp [Lit.wf, IntKind.min, IntKind.max, IntKind.signed, IntKind.bits] at w3
      omega
    obtain ⟨k, rfl⟩ : ∃ k : Nat, i = (k : Int) := ⟨i.toNat, by omega⟩
    obtain ⟨d, rfl⟩ : ∃ d : UInt8, c = (d.toNat : Int) := ⟨UInt8.ofNat c.toNat, by rw [UInt8.toNat_ofNat']; omega⟩
    exact hmacRights_main A n ca key B m cb ls k d x w hi.len h1 (by omega) hi.rd hj.len (by omega) hj.rd hx (by omega) (by omega) hf
end Go.Proofs.Ytbjclmfhmdalkaa
