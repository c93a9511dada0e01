/- HmacHolds: the walk. -/
import Derived.Test.YtbjclmfhmdalkaaOpenC
set_option linter.unusedVariables false
set_option linter.unusedSimpArgs false
namespace Go.Proofs.Ytbjclmfhmdalkaa
open Go.RowKit
def stepC (s : List UInt8 × Nat) : Array Value := #[.string ⟨s.1.toArray⟩, .int .u64 (s.2 : Int)]
theorem infoStep : (Try.prog.info? 42).map (·.size) = some 2 := by kernel_rfl
theorem boxStep (s : List UInt8 × Nat) (w : World) : (Instr.box 42 (.agg (stepC s))).run Try.prog w = .ok (.pointer (some ⟨w.heap.size, 0, none⟩)) (w.alloc (.cells (stepC s) 42)) := run_box_row w _ _ infoStep
theorem loadStep {w : World} {g : Nat} {t : TypeId} {s : List UInt8 × Nat} (hr : Row w g t (stepC s)) : (Instr.loadAt 42 (.pointer (some ⟨g, 0, none⟩))).run Try.prog w = .ok (.agg (stepC s)) w := run_load_row hr Try.underlying42 rfl infoStep
theorem buildSt1 (s : List UInt8 × Nat) (w : World) : (Instr.buildSlice 39 1 #[(0, .agg (stepC s))]).run Try.prog w = .ok (.slice (some ⟨w.heap.size, 0, none⟩) 1 1) (w.alloc (.cells (stepC s) 42)) := by kernel_rfl
theorem buildSt2 (s t : List UInt8 × Nat) (w : World) : (Instr.buildSlice 39 2 #[(0, .agg (stepC s)), (1, .agg (stepC t))]).run Try.prog w = .ok (.slice (some ⟨w.heap.size, 0, none⟩) 2 2) (w.alloc (.cells #[.string ⟨s.1.toArray⟩, .int .u64 (s.2 : Int), .string ⟨t.1.toArray⟩, .int .u64 (t.2 : Int)] 42)) := by kernel_rfl
def Pr.stepsV (n : Nat) (ss : List (List UInt8 × Nat)) : Pr := ⟨fun v W => ∃ g, v = .slice (some ⟨g, 0, none⟩) n n ∧ Steps W (some ⟨g, 0, none⟩) ss, fun _ _ _ ⟨g, e, h⟩ hL => ⟨g, e, h.below hL⟩⟩
theorem add00 {W : World} : (binOp .add 3 (.int .i64 0) (.int .i64 0)).run Try.prog W = .ok (.int .i64 0) W := by kernel_rfl
theorem neqI {x : Int} {W : World} : (binOp .neq 3 (.int .i64 x) (.int .i64 x)).run Try.prog W = .ok (.bool false) W := by
  go_simp
theorem eqg_strN {x y : Operand} {a b : ByteArray} {W : World} : (eqGuard .neq 9 x y (.string a) (.string b)).run Try.prog W = .ok () W := by kernel_rfl
theorem neqStr (s : List UInt8) (W : World) : (binOp .neq 9 (.string ⟨s.toArray⟩) (.string ⟨s.toArray⟩)).run Try.prog W = .ok (.bool false) W := by
  go_simp
theorem eqg_gtr {T : TypeId} {x y : Operand} {vx vy : Value} {P : Program} {W : World} : (eqGuard .gtr T x y vx vy).run P W = .ok () W := rfl
theorem gtr64 (n : Nat) (b : Bool) (h : decide ((64 : Int) < (n : Int)) = b) (W : World) : (binOp .gtr 3 (.int .i64 (n : Int)) (.int .i64 64)).run Try.prog W = .ok (.bool b) W := by
  subst h
  kernel_rfl
set_option maxRecDepth 100000 in
set_option maxHeartbeats 4000000 in
theorem hmacHolds_main (A : Option Addr) (n ca : Nat) (key : List UInt8) (B : Option Addr) (m cb : Nat) (ls : List (List UInt8)) (name : List UInt8) (o1 o2 : Nat) (a b : List UInt8 × Nat) (nz : Nat) (w : World) (hn : key.length = n) (hc : n ≤ ca) (hcm : ca ≤ 9223372036854775807) (hr : Rd w A key)
    (hls : ls.length = m) (hm : m ≤ 9223372036854775807) (hrs : RdsC w B ls) (hn2 : n ≤ 200) (hf : fits ls 15) (hnm : name.length ≤ 100) (h12 : o1 ≤ o2) (ho2 : o2 ≤ 300) (ha : a.1.length ≤ 100) (hb : b.1.length ≤ 100) (ha2 : a.2 < 18446744073709551616) (hb2 : b.2 < 18446744073709551616) (hnz : nz ≤ 64) :
    Calls Try.prog 6 #[.slice A n ca, .slice B m cb, .string ⟨name.toArray⟩, .int .i64 (o1 : Int), .int .i64 (o2 : Int), .agg (stepC a), .agg (stepC b), .int .i64 (nz : Int)] w fun e w' => e = .returned (.bool true) ∧ Below w.heap.size w w' := by
  have hd1 : decide (200 < n) = false := by simp; omega
  have hd1' : decide ((200 : Int) < (n : Int)) = false := by simp; omega
  have hd2 : decide (100 < name.length) = false := by simp; omega
  have hd2' : decide ((100 : Int) < (name.length : Int)) = false := by simp; omega
  have hd3 : decide ((o1 : Int) < 0) = false := by simp
  have hd4 : decide (o2 < o1) = false := by simp; omega
  have hd4' : decide ((o2 : Int) < (o1 : Int)) = false := by simp; omega
  have hd5 : decide (300 < o2) = false := by simp; omega
  have hd5' : decide ((300 : Int) < (o2 : Int)) = false := by simp; omega
  have hd6 : decide (100 < a.1.length) = false := by simp; omega
  have hd6' : decide ((100 : Int) < (a.1.length : Int)) = false := by simp; omega
  have hd7 : decide (100 < b.1.length) = false := by simp; omega
  have hd7' : decide ((100 : Int) < (b.1.length : Int)) = false := by simp; omega
  have hd8 : decide ((nz : Int) < 0) = false := by simp
  have hd9 : decide (64 < nz) = false := by simp; omega
  have hd9' : decide ((64 : Int) < (nz : Int)) = false := by simp; omega
  have hfl := fits_len hf
  obtain ⟨T, hT⟩ : ∃ q, Hm.tag key ls.flatten = q := ⟨_, rfl⟩
  have hTl : T.length = 32 := by rw [← hT]; exact Hm.tag_len _ _
  have k13 := (Row.new w 42 (stepC a)).alloc (.cells (stepC b) 42)
  have k14 := Row.new (w.alloc (.cells (stepC a) 42)) 42 (stepC b)
  have hL1 := ((Later.refl w).alloc (.cells (stepC a) 42)).alloc (.cells (stepC b) 42)
  have HN := Lib.hid hn
  have HTL := Lib.hid hTl
  have HT := Lib.hid hT
  have HF := Lib.hid hf
  have HFL := Lib.hid hfl
  have HLS := Lib.hid hls
  clear hn hTl hT hf hfl hls
  go_enter Try.func6, Try.ntmps6
  go_upto_region 1 with (first
    | (refine wpList_box rfl 42 (.tmp 5) rfl (.agg (stepC a)) rfl (boxStep a _) ?_)
    | (refine wpList_box rfl 42 (.tmp 6) rfl (.agg (stepC b)) rfl (boxStep b _) ?_)
    | fail)
  rw [World.size_alloc] at k14
  obtain ⟨g, hg⟩ : ∃ q, q = w.heap.size := ⟨_, rfl⟩
  rw [← hg] at k13 k14 ⊢
  clear hg
  generalize (w.alloc (.cells (stepC a) 42)).alloc (.cells (stepC b) 42) = w1 at *
  have hfew := few_any B m cb ls 15 w1 HLS.out (by decide) hm (hrs.below hL1)
  go_upto_region 2 with (first
    | (go_at_call 9; refine hfew.mono ?_; clear hfew; rintro e w2 ⟨⟨_, v, rfl, hown⟩ | ⟨hno, _⟩, hb2⟩; rotate_left; exact absurd HF.out hno)
    | fail)
  obtain ⟨A2, c2, rfl, h21, h22, h2r⟩ := hown.slice
  have hL2 : Later w1 w2 := hb2
  have hLw2 := hL1.step hL2
  have k13 := k13.later hL2
  have k14 := k14.later hL2
  have hra := hr.later hLw2
  have hrl := hrs.below hLw2
  obtain ⟨fl, hfl⟩ : ∃ q, ls.flatten = q := ⟨_, rfl⟩
  rw [hfl] at h2r HT HFL h21
  rw [hfl]
  have HFE := Lib.hid hfl
  unfold maxLen at h22
  have hc13 : w2.cell? ⟨g, 0, none⟩ = some (.string ⟨a.1.toArray⟩) := (k13.cell 0).trans rfl
  have hc14 : w2.cell? ⟨g + 1, 0, none⟩ = some (.string ⟨b.1.toArray⟩) := (k14.cell 0).trans rfl
  clear hown hb2 hL2 hL1 hfl hr hrs
  have hnew := newMac_any A n ca key w2 HN.out hc hcm (by omega) hra
  go_upto_region 5 with (first
    | (go_at_call 18; refine hnew.mono ?_; clear hnew; rintro e w3 ⟨gm, gr, rfl, hmac, hgm, hgr, hL3⟩)
    | fail)
  have hw3 : Below w2.heap.size w2 w3 := hL3
  have hmac0 : IsMac w3 gm gr key (ls.take 0).flatten := by simpa using hmac
  clear hd1 hd1' hd2 hd2' hd3 hd4 hd4' hd5 hd5' hd6 hd6' hd7 hd7' hd8 hd9 hd9' hc13 hc14 hL3 hmac
  go_wp2_with fail
  go_loopw [20] (fun t wr => ∃ k : Nat, k ≤ m ∧ t = .int .i64 (k : Int) ∧ IsMac wr gm gr key (ls.take k).flatten ∧ Below w2.heap.size w2 wr) (fun t _ => m - (intOf t).toNat)
  case atStart => exact ⟨0, by omega, rfl, hmac0, hw3⟩
  case round =>
    obtain ⟨k, hk, rfl, hmac, hbr⟩ := hrel
    clear hmac0 hw3
    have hbrs := hbr.size
    by_cases hlt : k < m
    · have hltS : k < ls.length := by rw [HLS.out]; exact hlt
      obtain ⟨bb, oo, Ai, ci, rfl, hc1, hci, hcim, hrd1⟩ := hrl.at_ hltS
      have hc' : wr.cell? ⟨bb, oo + k, none⟩ = some (.slice Ai ls[k].length ci) := (hbr.cell (p := ⟨bb, oo + k, none⟩) (block_lt_of_cell hc1)).trans hc1
      have hrd := hrd1.below hbr
      have hlt1 : ∀ ad, Ai = some ad → ls[k] ≠ [] → ad.block ≠ gr := fun ad e hl => by
        obtain ⟨b', o', e', _⟩ := hrd1 hl
        rw [e] at e'
        injection e' with e'
        have := hrd1.lt (e.trans (congrArg some e')) hl
        rw [e']
        exact Nat.ne_of_lt (Nat.lt_of_lt_of_le this hgr)
      have hnext : (ls.take (k + 1)).flatten = (ls.take k).flatten ++ ls[k] := by
        rw [List.take_succ_eq_append_getElem hltS, List.flatten_append]; simp
      have hpl : (ls.take k).flatten.length + ls[k].length ≤ 1000000000 := by
        have := take_flat ls (k + 1)
        rw [hnext, List.length_append] at this
        have h2 := HFL.out
        rw [← HFE.out] at h2
        omega
      have HNX := Lib.hid hnext
      have HL := Lib.hid hlt1
      clear hnext hlt1 hc1 hrd1
      generalize (ls.take k).flatten = z at *
      generalize ls[k] = l at *
      go_wp2_with (first | (go_at_call 19; refine (writeMac_any gm gr key z Ai _ ci l _ hmac rfl hci hcim hrd HL.out hpl).mono ?_; rintro e w4 ⟨rfl, hmac2, hg2⟩) | fail)
      go_roundw
      case rel => exact ⟨k + 1, by omega, by go_num, by rw [HNX.out]; exact hmac2, hbr.grown hg2 hbrs (fun j e => by cases e; exact hgr)⟩
      case measure => simp [intOf]; omega
    · obtain rfl : k = m := by omega
      rw [List.take_of_length_le (by rw [HLS.out]; omega), HFE.out] at hmac
      have k13 := k13.belowAll hbr
      have k14 := k14.belowAll hbr
      have hra := hra.below hbr
      have hrl := hrl.below hbr
      have h2r := h2r.below hbr
      have hLr : Later w wr := hLw2.step hbr
      clear hbr hbrs hLw2 hlt hk
      have hft : [fl].flatten = fl := by simp
      have htag := hmTag_any A n ca key (some ⟨wr.heap.size, 0, none⟩) 1 1 [fl] (wr.alloc (.cells #[.slice A2 fl.length c2] 22)) HN.out hc hcm (by omega) (hra.alloc _) rfl (by decide) (by rw [hft]; have := HFL.out; omega) (RdsC.one 22 rfl h2r rfl h21 h22)
      rw [hft, HT.out] at htag
      have HTAG := Lib.hid htag
      clear htag hft
      go_upto_region 10 with (first
        | (refine wpList_buildSl rfl 23 1 _ rfl #[(0, .slice A2 fl.length c2)] rfl (build1S _ _ _ _) ?_)
        | (go_at_call 20; refine HTAG.out.mono ?_; rintro e w4 ⟨rfl, hb4⟩; have hL4 : Later wr w4 := ((Later.refl wr).alloc _).step hb4; obtain ⟨w5, hst5, hr21, hg5⟩ := storeH (a := []) (b := T) (by simp) (by rw [HTL.out]; omega) (Row.new w4 25 (hC [])))
        | (with_reducible refine wpList_alloc rfl 25 rfl (allocH _) ?_)
        | (refine wpList_store rfl 25 (.tmp 21) (.tmp 97) rfl (.pointer (some ⟨w4.heap.size, 0, none⟩)) (.agg (hC T)) rfl rfl hst5 ?_)
        | fail)
      have hL5 : Later wr w5 := Below.grown (hL4.alloc _) hg5 (by have := hL4.size; simp only [World.size_alloc]; omega) (fun j e => by cases e; exact hL4.size)
      obtain ⟨g21, hg21⟩ : ∃ q, q = w4.heap.size := ⟨_, rfl⟩
      rw [← hg21] at hr21 ⊢
      have hmac := hmac.later hL5
      have k13 := k13.later hL5
      have k14 := k14.later hL5
      have hra := hra.later hL5
      have hrl := hrl.below hL5
      have h2r := h2r.later hL5
      have hL5w := hLr.step hL5
      clear hst5 hg5 hg21 hL4 hb4 hL5 hLr HTAG
      have hE1 := expand_any A n ca key name o1 w5 HN.out hc hcm (by omega) (by omega) hra (by omega)
      have HE2 : Hid (∀ W, Later w5 W → _) := Lib.hid (fun W (hL : Later w5 W) => expand_any A n ca key name o2 W HN.out hc hcm (by omega) (by omega) (hra.later hL) (by omega))
      have hx1 := Hm.expand_len key name o1
      have hx2 := Hm.expand_len key name o2
      have hxt := Hm.expand_take key name o1 o2 h12
      generalize Hm.expand key name o1 = x1 at *
      generalize Hm.expand key name o2 = x2 at *
      have HX1 := Lib.hid hx1
      have HX2 := Lib.hid hx2
      have HXT := Lib.hid hxt
      clear hx1 hx2 hxt
      go_upto_region 11 with (first
        | (go_at_call 13; refine hE1.mono ?_; clear hE1; rintro e w6 ⟨v6, rfl, hown6, hb6⟩)
        | fail)
      obtain ⟨A22, c22, rfl, _, _, hr22⟩ := hown6.slice
      have hL6 : Later w5 w6 := hb6
      rw [HX1.out]
      clear hown6 hb6
      go_upto_region 12 with (first
        | (go_at_call 13; refine (HE2.out _ hL6).mono ?_; clear HE2; rintro e w7 ⟨v7, rfl, hown7, hb7⟩)
        | fail)
      obtain ⟨A24, c24, rfl, h241, _, hr24⟩ := hown7.slice
      have hL7 : Later w6 w7 := hb7
      rw [HX2.out] at h241 ⊢
      have hL57 := hL6.step hL7
      have hr22 := hr22.later hL7
      have hr21 := hr21.later hL57
      have hmac := hmac.later hL57
      have k13 := k13.later hL57
      have k14 := k14.later hL57
      have hra := hra.later hL57
      have hrl := hrl.below hL57
      have h2r := h2r.later hL57
      have hL7w := hL5w.step hL57
      clear hown7 hb7 hL7 hL6 hL57 hL5w
      have hr24x : Rd w7 A24 x1 := by rw [← HXT.out]; exact hr24.take o1
      have hsl : ∀ w' : World, (Instr.sliceAt 22 (.slice A24 o2 c24) none (some (.int .i64 (o1 : Int))) none).run Try.prog w' = .ok (.slice A24 o1 c24) w' := run_slice_upto (k := o1) Try.underlying22 byteInfo8 (by omega)
      have ht1 : ∀ W, Later w7 W → Calls Try.prog 20 #[.slice A n ca, .slice B k cb] W fun e w' => e = .returned (.agg (hC T)) ∧ Below W.heap.size W w' := fun W hL => by
        have := hmTag_any A n ca key B k cb ls W HN.out hc hcm (by omega) (hra.later hL) HLS.out (by have := HF.out.1; have := HLS.out; omega) (by rw [HFE.out]; have := HFL.out; omega) (hrl.below hL)
        rwa [HFE.out, HT.out] at this
      have ht2 : ∀ W, Later w7 W → Calls Try.prog 21 #[.pointer (some ⟨gm, 0, none⟩)] W fun e w' => e = .returned (.agg (hC T)) ∧ Below W.heap.size W w' := fun W hL => by
        have := macTag_any gm gr key fl W (hmac.later hL) (by have := HFL.out; omega)
        rwa [HT.out] at this
      have HSL := Lib.hid hsl
      have HT1 := Lib.hid ht1
      have HT2 := Lib.hid ht2
      clear hsl ht1 ht2 hr24
      refine (wpIn_wide (n := 0)).1 ?_
      refine wpIn_region_vals wide_wide [Pr.eq (.slice A n ca), Pr.eq (.slice B k cb), Pr.eq (.agg (hC T)), Pr.eq (.agg (hC T)), Pr.eq (.bool false), Pr.eq (.bool false), Pr.eq (.pointer (some ⟨gm, 0, none⟩)), Pr.eq (.agg (hC T)), Pr.eq (.agg (hC T)), Pr.eq (.bool false), Pr.eq (.bool false), Pr.eq (.bool false), Pr.eq (.int .i64 (0)), Pr.eq (.int .i64 (0)), Pr.eq (.int .i64 (0)), Pr.eq (.int .i64 (0)), Pr.eq (.int .i64 (0)), Pr.eq (.bool false), Pr.eq (.bool false), Pr.eq (.bool false), Pr.eq (.slice A22 o1 c22), Pr.eq (.int .i64 ((o1 : Int))), Pr.eq (.int .i64 ((o1 : Int))), Pr.eq (.bool false), Pr.eq (.bool false), Pr.eq (.bool false), Pr.eq (.slice A24 o2 c24), Pr.eq (.int .i64 ((o2 : Int))), Pr.eq (.int .i64 ((o2 : Int))), Pr.eq (.bool false), Pr.eq (.bool false), Pr.eq (.bool false), Pr.eq (.slice A22 o1 c22), Pr.eq (.string ⟨x1.toArray⟩), Pr.eq (.slice A24 o2 c24), Pr.eq (.int .i64 ((o1 : Int))), Pr.eq (.slice A24 o1 c24), Pr.eq (.string ⟨x1.toArray⟩), Pr.eq (.bool false), Pr.eq (.bool false)] (by kernel_rfl) (by kernel_rfl) (by kernel_rfl) (by kernel_rfl) (by kernel_rfl) ⟨?_, ?_, ?_, ?_, ?_, ?_, ?_, ?_, ?_, ?_, ?_, ?_, ?_, ?_, ?_, ?_, ?_, ?_, ?_, ?_, ?_, ?_, ?_, ?_, ?_, ?_, ?_, ?_, ?_, ?_, ?_, ?_, ?_, ?_, ?_, ?_, ?_, ?_, ?_, ?_, trivial⟩ ?_
      · exact fun ac W hL he => stepOk_want rfl (op_move rfl (he.keep (.tmp 0) (by kernel_rfl)))
      · exact fun ac W hL he => stepOk_want rfl (op_move rfl (he.keep (.tmp 1) (by kernel_rfl)))
      · intro ac W hL he; refine stepOk_want rfl ?_; have e0 : ac.eval (.tmp 112) = (.slice A n ca) := (he.get 0 112 (by kernel_rfl) rfl); have e1 : ac.eval (.tmp 113) = (.slice B k cb) := (he.get 1 113 (by kernel_rfl) rfl); exact op_callF (vs := #[.slice A n ca, .slice B k cb]) rfl (by simp only [List.map_toArray, List.map_cons, List.map_nil, e0, e1]) (enters_of Try.func20 (by kernel_rfl) rfl) ((HT1.out W hL).mono fun e W' ⟨he', hb⟩ => ⟨_, he', hb, rfl⟩)
      · exact fun ac W hL he => stepOk_want rfl (op_load rfl (he.keep (.tmp 21) (by kernel_rfl)) (loadH HTL.out (hr21.later hL)) rfl)
      · exact fun ac W hL he => stepOk_want rfl (op_binOp rfl (he.get 2 114 (by kernel_rfl) rfl) (he.get 3 115 (by kernel_rfl) rfl) (eqgHash _ _ _ _ _ W) (neqSame T HTL.out W) rfl)
      · exact fun ac W hL he => stepOk_want rfl (op_move rfl (he.get 4 116 (by kernel_rfl) rfl))
      · exact fun ac W hL he => stepOk_yes (j := 5) (t := 117) (b := false) rfl rfl (he.get 5 117 (by kernel_rfl) rfl) (op_move rfl (he.keep (.tmp 19) (by kernel_rfl)))
      · intro ac W hL he; refine stepOk_yes (j := 5) (t := 117) (b := false) rfl rfl (he.get 5 117 (by kernel_rfl) rfl) ?_; have e0 : ac.eval (.tmp 118) = (.pointer (some ⟨gm, 0, none⟩)) := (he.get 6 118 (by kernel_rfl) rfl); exact op_callF (vs := #[.pointer (some ⟨gm, 0, none⟩)]) rfl (by simp only [List.map_toArray, List.map_cons, List.map_nil, e0]) (enters_of Try.func21 (by kernel_rfl) rfl) ((HT2.out W hL).mono fun e W' ⟨he', hb⟩ => ⟨_, he', hb, rfl⟩)
      · exact fun ac W hL he => stepOk_yes (j := 5) (t := 117) (b := false) rfl rfl (he.get 5 117 (by kernel_rfl) rfl) (op_load rfl (he.keep (.tmp 21) (by kernel_rfl)) (loadH HTL.out (hr21.later hL)) rfl)
      · exact fun ac W hL he => stepOk_yes (j := 5) (t := 117) (b := false) rfl rfl (he.get 5 117 (by kernel_rfl) rfl) (op_binOp rfl (he.get 7 119 (by kernel_rfl) rfl) (he.get 8 120 (by kernel_rfl) rfl) (eqgHash _ _ _ _ _ W) (neqSame T HTL.out W) rfl)
      · exact fun ac W hL he => stepOk_want rfl (op_pick (b := false) rfl (he.get 5 117 (by kernel_rfl) rfl) (he.get 9 121 (by kernel_rfl) rfl))
      · exact fun ac W hL he => stepOk_want rfl (op_move rfl (he.get 10 122 (by kernel_rfl) rfl))
      · exact fun ac W hL he => stepOk_yes (j := 11) (t := 123) (b := false) rfl rfl (he.get 11 123 (by kernel_rfl) rfl) (op_move rfl (he.keep (.tmp 23) (by kernel_rfl)))
      · intro ac W hL he; refine stepOk_yes (j := 11) (t := 123) (b := false) rfl rfl (he.get 11 123 (by kernel_rfl) rfl) ?_; have e0 : ac.eval (.tmp 124) = (.int .i64 (0)) := (he.get 12 124 (by kernel_rfl) rfl); exact op_callF (vs := #[.int .i64 0]) rfl (by simp only [List.map_toArray, List.map_cons, List.map_nil, e0]) (enters_of Try.func15 (by kernel_rfl) rfl) ((num2_any 0 W).mono fun e W' ⟨he', hw⟩ => ⟨_, he', hw ▸ Later.refl _, rfl⟩)
      · exact fun ac W hL he => stepOk_yes (j := 11) (t := 123) (b := false) rfl rfl (he.get 11 123 (by kernel_rfl) rfl) (op_move rfl (he.keep (.tmp 25) (by kernel_rfl)))
      · intro ac W hL he; refine stepOk_yes (j := 11) (t := 123) (b := false) rfl rfl (he.get 11 123 (by kernel_rfl) rfl) ?_; have e0 : ac.eval (.tmp 126) = (.int .i64 (0)) := (he.get 14 126 (by kernel_rfl) rfl); exact op_callF (vs := #[.int .i64 0]) rfl (by simp only [List.map_toArray, List.map_cons, List.map_nil, e0]) (enters_of Try.func15 (by kernel_rfl) rfl) ((num2_any 0 W).mono fun e W' ⟨he', hw⟩ => ⟨_, he', hw ▸ Later.refl _, rfl⟩)
      · exact fun ac W hL he => stepOk_yes (j := 11) (t := 123) (b := false) rfl rfl (he.get 11 123 (by kernel_rfl) rfl) (op_binOp rfl (he.get 13 125 (by kernel_rfl) rfl) (he.get 15 127 (by kernel_rfl) rfl) eqg_add add00 rfl)
      · exact fun ac W hL he => stepOk_yes (j := 11) (t := 123) (b := false) rfl rfl (he.get 11 123 (by kernel_rfl) rfl) (op_binOp rfl (he.get 16 128 (by kernel_rfl) rfl) rfl eqg_in neq_i0 rfl)
      · exact fun ac W hL he => stepOk_want rfl (op_pick (b := false) rfl (he.get 11 123 (by kernel_rfl) rfl) (he.get 17 129 (by kernel_rfl) rfl))
      · exact fun ac W hL he => stepOk_want rfl (op_move rfl (he.get 18 130 (by kernel_rfl) rfl))
      · exact fun ac W hL he => stepOk_yes (j := 19) (t := 131) (b := false) rfl rfl (he.get 19 131 (by kernel_rfl) rfl) (op_move rfl (he.keep (.tmp 22) (by kernel_rfl)))
      · exact fun ac W hL he => stepOk_yes (j := 19) (t := 131) (b := false) rfl rfl (he.get 19 131 (by kernel_rfl) rfl) (op_len Try.underlying22 rfl (he.get 20 132 (by kernel_rfl) rfl) rfl)
      · exact fun ac W hL he => stepOk_yes (j := 19) (t := 131) (b := false) rfl rfl (he.get 19 131 (by kernel_rfl) rfl) (op_move rfl (he.keep (.tmp 3) (by kernel_rfl)))
      · exact fun ac W hL he => stepOk_yes (j := 19) (t := 131) (b := false) rfl rfl (he.get 19 131 (by kernel_rfl) rfl) (op_binOp rfl (he.get 21 133 (by kernel_rfl) rfl) (he.get 22 134 (by kernel_rfl) rfl) eqg_in neqI rfl)
      · exact fun ac W hL he => stepOk_want rfl (op_pick (b := false) rfl (he.get 19 131 (by kernel_rfl) rfl) (he.get 23 135 (by kernel_rfl) rfl))
      · exact fun ac W hL he => stepOk_want rfl (op_move rfl (he.get 24 136 (by kernel_rfl) rfl))
      · exact fun ac W hL he => stepOk_yes (j := 25) (t := 137) (b := false) rfl rfl (he.get 25 137 (by kernel_rfl) rfl) (op_move rfl (he.keep (.tmp 24) (by kernel_rfl)))
      · exact fun ac W hL he => stepOk_yes (j := 25) (t := 137) (b := false) rfl rfl (he.get 25 137 (by kernel_rfl) rfl) (op_len Try.underlying22 rfl (he.get 26 138 (by kernel_rfl) rfl) rfl)
      · exact fun ac W hL he => stepOk_yes (j := 25) (t := 137) (b := false) rfl rfl (he.get 25 137 (by kernel_rfl) rfl) (op_move rfl (he.keep (.tmp 4) (by kernel_rfl)))
      · exact fun ac W hL he => stepOk_yes (j := 25) (t := 137) (b := false) rfl rfl (he.get 25 137 (by kernel_rfl) rfl) (op_binOp rfl (he.get 27 139 (by kernel_rfl) rfl) (he.get 28 140 (by kernel_rfl) rfl) eqg_in neqI rfl)
      · exact fun ac W hL he => stepOk_want rfl (op_pick (b := false) rfl (he.get 25 137 (by kernel_rfl) rfl) (he.get 29 141 (by kernel_rfl) rfl))
      · exact fun ac W hL he => stepOk_want rfl (op_move rfl (he.get 30 142 (by kernel_rfl) rfl))
      · exact fun ac W hL he => stepOk_yes (j := 31) (t := 143) (b := false) rfl rfl (he.get 31 143 (by kernel_rfl) rfl) (op_move rfl (he.keep (.tmp 22) (by kernel_rfl)))
      · exact fun ac W hL he => stepOk_yes (j := 31) (t := 143) (b := false) rfl rfl (he.get 31 143 (by kernel_rfl) rfl) (op_convert rfl (he.get 32 144 (by kernel_rfl) rfl) (run_string_rd W 22 9 5 _ o1 c22 x1 Try.underlying22 Try.underlying5 Try.underlying9 HX1.out (hr22.later hL)) (Later.refl _) rfl)
      · exact fun ac W hL he => stepOk_yes (j := 31) (t := 143) (b := false) rfl rfl (he.get 31 143 (by kernel_rfl) rfl) (op_move rfl (he.keep (.tmp 24) (by kernel_rfl)))
      · exact fun ac W hL he => stepOk_yes (j := 31) (t := 143) (b := false) rfl rfl (he.get 31 143 (by kernel_rfl) rfl) (op_move rfl (he.keep (.tmp 3) (by kernel_rfl)))
      · exact fun ac W hL he => stepOk_yes (j := 31) (t := 143) (b := false) rfl rfl (he.get 31 143 (by kernel_rfl) rfl) (op_slice (W' := W) rfl (he.get 34 146 (by kernel_rfl) rfl) rfl (congrArg some (he.get 35 147 (by kernel_rfl) rfl)) rfl (HSL.out W) rfl)
      · exact fun ac W hL he => stepOk_yes (j := 31) (t := 143) (b := false) rfl rfl (he.get 31 143 (by kernel_rfl) rfl) (op_convert rfl (he.get 36 148 (by kernel_rfl) rfl) (run_string_rd W 22 9 5 _ o1 c24 x1 Try.underlying22 Try.underlying5 Try.underlying9 HX1.out (hr24x.later hL)) (Later.refl _) rfl)
      · exact fun ac W hL he => stepOk_yes (j := 31) (t := 143) (b := false) rfl rfl (he.get 31 143 (by kernel_rfl) rfl) (op_binOp rfl (he.get 33 145 (by kernel_rfl) rfl) (he.get 37 149 (by kernel_rfl) rfl) eqg_strN (neqStr x1 W) rfl)
      · exact fun ac W hL he => stepOk_want rfl (op_pick (b := false) rfl (he.get 31 143 (by kernel_rfl) rfl) (he.get 38 150 (by kernel_rfl) rfl))
      intro xs W8 hL8 hx
      have he151 : xs 39 = .bool false := hx 39 (by decide)
      have hr21 := hr21.later hL8
      have k13 := k13.later hL8
      have k14 := k14.later hL8
      have hra := hra.later hL8
      have h2r := h2r.later hL8
      have hL8w := hL7w.step hL8
      clear hx hL8 hL7w HT1 HT2 HSL hr24x hr22 hmac hrl
      simp only [putL, Nat.reduceAdd, Act.put, List.setIfInBounds_toArray, List.set_cons_succ, List.set_cons_zero, he151]
      obtain ⟨C1, hC1⟩ : ∃ q, Hm.child key [a] = q := ⟨_, rfl⟩
      have hC1l : C1.length = 32 := by rw [← hC1]; exact Hm.child_len _ _
      have hch := child_any A n ca key (some ⟨W8.heap.size, 0, none⟩) 1 1 [a] (W8.alloc (.cells (stepC a) 42)) HN.out hc hcm (by omega) (hra.alloc _) rfl (by decide) (fun s hs => by simp at hs; subst hs; exact ⟨by omega, ha2⟩) (Steps.one W8 42 a.1 a.2)
      rw [hC1] at hch
      have HC1 := Lib.hid hC1
      have HC1L := Lib.hid hC1l
      have HCH := Lib.hid hch
      clear hC1 hC1l hch
      go_upto_region 15 with (first
        | (refine wpList_load rfl 42 (.tmp 13) rfl (.pointer (some ⟨g, 0, none⟩)) rfl (loadStep k13) ?_)
        | (refine wpList_buildSl rfl 39 1 _ rfl #[(0, .agg (stepC a))] rfl (buildSt1 a _) ?_)
        | (go_at_call 16; refine HCH.out.mono ?_; rintro e w9 ⟨rfl, hb9⟩; have hL9 : Later W8 w9 := ((Later.refl W8).alloc _).step hb9; obtain ⟨w10, hst10, hr26, hg10⟩ := storeH (a := []) (b := C1) (by simp) (by rw [HC1L.out]; omega) (Row.new w9 25 (hC [])))
        | (with_reducible refine wpList_alloc rfl 25 rfl (allocH _) ?_)
        | (refine wpList_store rfl 25 (.tmp 26) (.tmp 155) rfl (.pointer (some ⟨w9.heap.size, 0, none⟩)) (.agg (hC C1)) rfl rfl hst10 ?_)
        | fail)
      case inl h => simp [stepC] at h
      have hL10 : Later W8 w10 := Below.grown (hL9.alloc _) hg10 (by have := hL9.size; simp only [World.size_alloc]; omega) (fun j e => by cases e; exact hL9.size)
      obtain ⟨g26, hg26⟩ : ∃ q, q = w9.heap.size := ⟨_, rfl⟩
      rw [← hg26] at hr26 ⊢
      have hr21 := hr21.later hL10
      have k13 := k13.later hL10
      have k14 := k14.later hL10
      have hra := hra.later hL10
      have h2r := h2r.later hL10
      have hL10w := hL8w.step hL10
      obtain ⟨C2, hC2⟩ : ∃ q, Hm.child key [a, b] = q := ⟨_, rfl⟩
      have HC2L : Hid (C2.length = 32) := Lib.hid (by rw [← hC2]; exact Hm.child_len _ _)
      have HC2 : Hid (Hm.child C1 [b] = C2) := Lib.hid (by rw [← hC2, Hm.child_two, HC1.out])
      have HCH2 : Hid (∀ gq W, Later w10 W → Steps W (some ⟨gq, 0, none⟩) [a, b] → Calls Try.prog 16 #[.slice A n ca, .slice (some ⟨gq, 0, none⟩) 2 2] W fun e w' => e = .returned (.agg (hC C2)) ∧ Below W.heap.size W w') := Lib.hid fun gq W hL hst => by
        have := child_any A n ca key (some ⟨gq, 0, none⟩) 2 2 [a, b] W HN.out hc hcm (by omega) (hra.later hL) rfl (by decide) (fun s hs => by simp at hs; exact hs.elim (fun e => by subst e; exact ⟨by omega, ha2⟩) (fun e => by subst e; exact ⟨by omega, hb2⟩)) hst
        rwa [hC2] at this
      have HCH1 : Hid (∀ gq W, Later w10 W → Steps W (some ⟨gq, 0, none⟩) [b] → Calls Try.prog 16 #[.slice (some ⟨g26, 0, none⟩) 32 32, .slice (some ⟨gq, 0, none⟩) 1 1] W fun e w' => e = .returned (.agg (hC C2)) ∧ Below W.heap.size W w') := Lib.hid fun gq W hL hst => by
        have := child_any (some ⟨g26, 0, none⟩) 32 32 C1 (some ⟨gq, 0, none⟩) 1 1 [b] W HC1L.out (Nat.le_refl _) (by decide) (by decide) (rd_hash HC1L.out (hr26.later hL)) rfl (by decide) (fun s hs => by simp at hs; subst hs; exact ⟨by omega, hb2⟩) hst
        rwa [HC2.out] at this
      clear hst10 hg10 hg26 hL9 hb9 hL10 hC2 HCH hL8w
      refine (wpIn_wide (n := 0)).1 ?_
      refine wpIn_region_vals wide_wide [Pr.eq (.slice A n ca), Pr.eq (.agg (stepC a)), Pr.eq (.agg (stepC b)), Pr.stepsV 2 [a, b], Pr.eq (.agg (hC C2)), Pr.eq (.slice (some ⟨g26, 0, none⟩) 32 32), Pr.eq (.agg (stepC b)), Pr.stepsV 1 [b], Pr.eq (.agg (hC C2)), Pr.eq (.bool false)] (by kernel_rfl) (by kernel_rfl) (by kernel_rfl) (by kernel_rfl) (by kernel_rfl) ⟨?_, ?_, ?_, ?_, ?_, ?_, ?_, ?_, ?_, ?_, trivial⟩ ?_
      · exact fun ac W hL he => stepOk_want rfl (op_move rfl (he.keep (.tmp 0) (by kernel_rfl)))
      · exact fun ac W hL he => stepOk_want rfl (op_load rfl (he.keep (.tmp 13) (by kernel_rfl)) (loadStep (k13.later hL)) rfl)
      · exact fun ac W hL he => stepOk_want rfl (op_load rfl (he.keep (.tmp 14) (by kernel_rfl)) (loadStep (k14.later hL)) rfl)
      · intro ac W hL he; refine stepOk_want rfl ?_; have e0 : ac.eval (.tmp 157) = .agg (stepC a) := he.get 1 157 (by kernel_rfl) rfl; have e1 : ac.eval (.tmp 158) = .agg (stepC b) := he.get 2 158 (by kernel_rfl) rfl; exact op_buildSlice (W' := _) (vs := #[(0, .agg (stepC a)), (1, .agg (stepC b))]) rfl (by simp only [List.map_toArray, List.map_cons, List.map_nil, e0, e1]) (buildSt2 a b W) ((Later.refl W).alloc _) ⟨_, rfl, Steps.two W 42 a.1 a.2 b.1 b.2⟩
      · intro ac W hL he; refine stepOk_want rfl ?_; have e0 : ac.eval (.tmp 156) = .slice A n ca := he.get 0 156 (by kernel_rfl) rfl; obtain ⟨gq, e1, hst⟩ : ∃ g, ac.eval (.tmp 159) = .slice (some ⟨g, 0, none⟩) 2 2 ∧ Steps W (some ⟨g, 0, none⟩) [a, b] := he.get 3 159 (by kernel_rfl) rfl; exact op_callF (vs := #[.slice A n ca, .slice (some ⟨gq, 0, none⟩) 2 2]) rfl (by simp only [List.map_toArray, List.map_cons, List.map_nil, e0, e1]) (enters_of Try.func16 (by kernel_rfl) rfl) ((HCH2.out gq W hL hst).mono fun e W' ⟨he', hb⟩ => ⟨_, he', hb, rfl⟩)
      · exact fun ac W hL he => stepOk_want rfl (op_slice (W' := W) rfl (he.keep (.tmp 26) (by kernel_rfl)) rfl rfl rfl (sliceHash W) rfl)
      · exact fun ac W hL he => stepOk_want rfl (op_load rfl (he.keep (.tmp 14) (by kernel_rfl)) (loadStep (k14.later hL)) rfl)
      · intro ac W hL he; refine stepOk_want rfl ?_; have e0 : ac.eval (.tmp 162) = .agg (stepC b) := he.get 6 162 (by kernel_rfl) rfl; exact op_buildSlice (W' := _) (vs := #[(0, .agg (stepC b))]) rfl (by simp only [List.map_toArray, List.map_cons, List.map_nil, e0]) (buildSt1 b W) ((Later.refl W).alloc _) ⟨_, rfl, Steps.one W 42 b.1 b.2⟩
      · intro ac W hL he; refine stepOk_want rfl ?_; have e0 : ac.eval (.tmp 161) = .slice (some ⟨g26, 0, none⟩) 32 32 := he.get 5 161 (by kernel_rfl) rfl; obtain ⟨gq, e1, hst⟩ : ∃ g, ac.eval (.tmp 163) = .slice (some ⟨g, 0, none⟩) 1 1 ∧ Steps W (some ⟨g, 0, none⟩) [b] := he.get 7 163 (by kernel_rfl) rfl; exact op_callF (vs := #[.slice (some ⟨g26, 0, none⟩) 32 32, .slice (some ⟨gq, 0, none⟩) 1 1]) rfl (by simp only [List.map_toArray, List.map_cons, List.map_nil, e0, e1]) (enters_of Try.func16 (by kernel_rfl) rfl) ((HCH1.out gq W hL hst).mono fun e W' ⟨he', hb⟩ => ⟨_, he', hb, rfl⟩)
      · exact fun ac W hL he => stepOk_want rfl (op_binOp rfl (he.get 4 160 (by kernel_rfl) rfl) (he.get 8 164 (by kernel_rfl) rfl) (eqgHash _ _ _ _ _ W) (neqSame C2 HC2L.out W) rfl)
      intro xs2 W11 hL11 hx
      have he165 : xs2 9 = .bool false := hx 9 (by decide)
      have hr21 := hr21.later hL11
      have hra := hra.later hL11
      have h2r := h2r.later hL11
      have hL11w := hL10w.step hL11
      clear hx hL11 hL10w HCH1 HCH2 hr26 k13 k14 HC1 HC1L HC2 HC2L
      simp only [putL, Nat.reduceAdd, Act.put, List.setIfInBounds_toArray, List.set_cons_succ, List.set_cons_zero, he165]
      have hvd := own_void W11 5 W11.heap.size (Nat.le_refl _)
      obtain ⟨g17, c17, w12, hrun, hL12, ho17, _⟩ := run_append_void (P := Try.prog) (W11.alloc (.cells #[] 5)) W11.heap.size W11.heap.size 22 22 5 Try.underlying22 byteInfo8 hvd (by simp) A n ca key HN.out (hra.alloc _) (by omega)
      have hL12 : Later W11 w12 := ((Later.refl W11).alloc _).step hL12
      obtain ⟨d64, hd64⟩ : ∃ d, decide (64 < n) = d := ⟨_, rfl⟩
      have hd64' : decide ((64 : Int) < (n : Int)) = d64 := by rw [← hd64]; exact decide_eq_decide.2 (by omega)
      go_upto_region 18 with (first
        | (at_builtin; refine Lib.wpList_append_run _ rfl (.tmp 166) (.tmp 167) 22 22 rfl _ _ rfl rfl _ _ hrun ?_)
        | (at_builtin; refine wpList_append_zeros rfl (.tmp 168) (.tmp 169) 22 3 rfl W11.heap.size g17 c17 5 .i64 Try.underlying22 Try.underlying3 byteInfo8 key n HN.out rfl ho17 nz rfl (by omega) hL12.size ?_; intro v13 w13 hown13 hg13 _)
        | fail)
      have hL13 : Later W11 w13 := hL12.grown hg13 hL12.size (fun j e => by cases e; exact (ho17.at_ g17 rfl).1)
      obtain ⟨A27, c27, rfl, h271, h272, hr27⟩ := hown13.slice
      have hzl : (key ++ List.replicate nz 0).length = n + nz := by rw [List.length_append, List.length_replicate, HN.out]
      rw [hzl] at h271 ⊢
      have hr21 := hr21.later hL13
      have hra := hra.later hL13
      have h2r := h2r.later hL13
      have hL13w := hL11w.step hL13
      have HZL := Lib.hid hzl
      unfold maxLen at h272
      clear hvd hrun hL12 ho17 hown13 hg13 hL13 hL11w hzl
      cases d64 with
      | true =>
        have h64 : 64 < n := by simpa using hd64
        obtain ⟨K, hK⟩ : ∃ q, Sha.sum key = q := ⟨_, rfl⟩
        have hKl : K.length = 32 := by rw [← hK]; exact Sha.sum_len _
        have hKT : Hm.tag K fl = T := by rw [← hK, Hm.tag_sum _ _ (by rw [HN.out]; exact h64), HT.out]
        have hsum := refSum_any A n ca key w13 HN.out (by omega) hra
        rw [hK] at hsum
        have HKL := Lib.hid hKl
        have HKT := Lib.hid hKT
        clear hK hKl hKT hr27 HZL
        go_upto_region 21 with (first
          | (go_at_call 22; refine hsum.mono ?_; clear hsum; rintro e w14 ⟨rfl, hb14⟩; obtain ⟨w15, hst15, hr28, hg15⟩ := storeH (a := []) (b := K) (by simp) (by rw [HKL.out]; omega) (Row.new w14 25 (hC [])))
          | (with_reducible refine wpList_alloc rfl 25 rfl (allocH _) ?_)
          | (refine wpList_store rfl 25 (.tmp 28) (.tmp 175) rfl (.pointer (some ⟨w14.heap.size, 0, none⟩)) (.agg (hC K)) rfl rfl hst15 ?_)
          | (refine wpList_slice0 rfl 25 (.tmp 28) rfl _ rfl (sliceHash _) ?_)
          | fail)
        have hL15 : Later w13 w15 := Below.grown (Later.alloc hb14 _) hg15 (by have := Later.size hb14; simp only [World.size_alloc]; omega) (fun j e => by cases e; exact Later.size hb14)
        obtain ⟨g28, hg28⟩ : ∃ q, q = w14.heap.size := ⟨_, rfl⟩
        rw [← hg28] at hr28 ⊢
        have hr21 := hr21.later hL15
        have h2r := h2r.later hL15
        have hL15w := hL13w.step hL15
        have HGT : Hid (∀ W, (binOp .gtr 3 (.int .i64 ((32 : Nat) : Int)) (.int .i64 64)).run Try.prog W = .ok (.bool false) W) := Lib.hid (gtr64 32 false (by decide))
        have HTO : Hid (∀ gq W, Later w15 W → RdsC W (some ⟨gq, 0, none⟩) [fl] → Calls Try.prog 20 #[.slice (some ⟨g28, 0, none⟩) 32 32, .slice (some ⟨gq, 0, none⟩) 1 1] W fun e w' => e = .returned (.agg (hC T)) ∧ Below W.heap.size W w') := Lib.hid fun gq W hL hst => by
          have := hmTag_any (some ⟨g28, 0, none⟩) 32 32 K (some ⟨gq, 0, none⟩) 1 1 [fl] W HKL.out (by omega) (by omega) (by omega) (rd_hash HKL.out (hr28.later hL)) rfl (by decide) (by simp; have := HFL.out; omega) hst
          rw [show [fl].flatten = fl by simp, HKT.out] at this
          exact this
        clear hst15 hg15 hg28 hb14 hL15 hL13w
        refine (wpIn_wide (n := 0)).1 ?_
        refine wpIn_region_vals wide_wide [Pr.eq (.slice (some ⟨g28, 0, none⟩) 32 32), Pr.eq (.int .i64 ((32 : Nat) : Int)), Pr.eq (.bool false), Pr.eq (.bool false), Pr.eq (.slice (some ⟨g28, 0, none⟩) 32 32), Pr.eq (.slice A2 fl.length c2), Pr.rowsC 1 [fl], Pr.eq (.agg (hC T)), Pr.eq (.agg (hC T)), Pr.eq (.bool true), Pr.eq (.bool true), Pr.eq (.bool true), Pr.eq (.bool true), Pr.eq (.bool true), Pr.eq (.bool true)] (by kernel_rfl) (by kernel_rfl) (by kernel_rfl) (by kernel_rfl) (by kernel_rfl) ⟨?_, ?_, ?_, ?_, ?_, ?_, ?_, ?_, ?_, ?_, ?_, ?_, ?_, ?_, ?_, trivial⟩ ?_
        · exact fun ac W hL he => stepOk_want rfl (op_move rfl (he.keep (.tmp 27) (by kernel_rfl)))
        · exact fun ac W hL he => stepOk_want rfl (op_len Try.underlying22 rfl (he.get 0 177 (by kernel_rfl) rfl) rfl)
        · exact fun ac W hL he => stepOk_want rfl (op_binOp rfl (he.get 1 178 (by kernel_rfl) rfl) rfl eqg_gtr (HGT.out W) rfl)
        · exact fun ac W hL he => stepOk_want rfl (op_move rfl (he.get 2 179 (by kernel_rfl) rfl))
        · exact fun ac W hL he => stepOk_yes (j := 3) (t := 180) (b := false) rfl rfl (he.get 3 180 (by kernel_rfl) rfl) (op_move rfl (he.keep (.tmp 27) (by kernel_rfl)))
        · exact fun ac W hL he => stepOk_yes (j := 3) (t := 180) (b := false) rfl rfl (he.get 3 180 (by kernel_rfl) rfl) (op_move rfl (he.keep (.tmp 17) (by kernel_rfl)))
        · intro ac W hL he; refine stepOk_yes (j := 3) (t := 180) (b := false) rfl rfl (he.get 3 180 (by kernel_rfl) rfl) ?_; have e0 : ac.eval (.tmp 182) = .slice A2 fl.length c2 := he.get 5 182 (by kernel_rfl) rfl; exact op_buildSlice (W' := _) (vs := #[(0, .slice A2 fl.length c2)]) rfl (by simp only [List.map_toArray, List.map_cons, List.map_nil, e0]) (run_rows1 W _ _ _) ((Later.refl W).alloc _) ⟨_, rfl, RdsC.one 22 rfl (h2r.later hL) rfl h21 h22⟩
        · intro ac W hL he; refine stepOk_yes (j := 3) (t := 180) (b := false) rfl rfl (he.get 3 180 (by kernel_rfl) rfl) ?_; have e0 : ac.eval (.tmp 181) = .slice (some ⟨g28, 0, none⟩) 32 32 := he.get 4 181 (by kernel_rfl) rfl; obtain ⟨gq, e1, hrr⟩ : ∃ g, ac.eval (.tmp 183) = .slice (some ⟨g, 0, none⟩) 1 1 ∧ RdsC W (some ⟨g, 0, none⟩) [fl] := he.get 6 183 (by kernel_rfl) rfl; exact op_callF (vs := #[.slice (some ⟨g28, 0, none⟩) 32 32, .slice (some ⟨gq, 0, none⟩) 1 1]) rfl (by simp only [List.map_toArray, List.map_cons, List.map_nil, e0, e1]) (enters_of Try.func20 (by kernel_rfl) rfl) ((HTO.out gq W hL hrr).mono fun e W' ⟨he', hb⟩ => ⟨_, he', hb, rfl⟩)
        · exact fun ac W hL he => stepOk_yes (j := 3) (t := 180) (b := false) rfl rfl (he.get 3 180 (by kernel_rfl) rfl) (op_load rfl (he.keep (.tmp 21) (by kernel_rfl)) (loadH HTL.out (hr21.later hL)) rfl)
        · exact fun ac W hL he => stepOk_yes (j := 3) (t := 180) (b := false) rfl rfl (he.get 3 180 (by kernel_rfl) rfl) (op_binOp rfl (he.get 7 184 (by kernel_rfl) rfl) (he.get 8 185 (by kernel_rfl) rfl) (eqgHash _ _ _ _ _ W) (eqlSame T HTL.out W) rfl)
        · exact fun ac W hL he => stepOk_want rfl (op_pick (b := false) rfl (he.get 3 180 (by kernel_rfl) rfl) (he.get 9 186 (by kernel_rfl) rfl))
        · exact fun ac W hL he => stepOk_want rfl (op_move rfl (he.get 10 187 (by kernel_rfl) rfl))
        · intro ac W hL he; refine stepOk_yes (j := 11) (t := 188) (b := true) rfl rfl (he.get 11 188 (by kernel_rfl) rfl) ?_; exact op_callF (vs := #[]) rfl (by simp) (enters_of Try.func10 (by kernel_rfl) rfl) ((works2_yes W).mono fun e W' ⟨he', hb⟩ => ⟨_, he', hb, rfl⟩)
        · exact fun ac W hL he => stepOk_want rfl (op_pick (b := true) rfl (he.get 11 188 (by kernel_rfl) rfl) (he.get 12 189 (by kernel_rfl) rfl))
        · exact fun ac W hL he => stepOk_want rfl (op_assign rfl (he.get 13 190 (by kernel_rfl) rfl))
        intro xs3 W16 hL16 hx
        have hex : xs3 14 = .bool true := hx 14 (by decide)
        clear hx
        simp only [putL, Nat.reduceAdd, Act.put, List.setIfInBounds_toArray, List.set_cons_succ, List.set_cons_zero, hex]
        go_wp2_with fail
        go_ret
        exact ⟨rfl, hL15w.step hL16⟩
      | false =>
        have h64 : n ≤ 64 := by simp at hd64; omega
        go_upto_region 21 with fail
        by_cases hno : n + nz ≤ 64
        · have hKT : Hm.tag (key ++ List.replicate nz 0) fl = T := by rw [← HT.out]; exact Hm.tag_zeros key fl nz (by rw [HN.out]; exact hno)
          have HKT := Lib.hid hKT
          have HGT : Hid (∀ W, (binOp .gtr 3 (.int .i64 ((n + nz : Nat) : Int)) (.int .i64 64)).run Try.prog W = .ok (.bool false) W) := Lib.hid (gtr64 (n + nz) false (by simp; omega))
          have HTO : Hid (∀ gq W, Later w13 W → RdsC W (some ⟨gq, 0, none⟩) [fl] → Calls Try.prog 20 #[.slice A27 (n + nz) c27, .slice (some ⟨gq, 0, none⟩) 1 1] W fun e w' => e = .returned (.agg (hC T)) ∧ Below W.heap.size W w') := Lib.hid fun gq W hL hst => by
            have := hmTag_any A27 (n + nz) c27 (key ++ List.replicate nz 0) (some ⟨gq, 0, none⟩) 1 1 [fl] W HZL.out (by omega) (by omega) (by omega) (hr27.later hL) rfl (by decide) (by simp; have := HFL.out; omega) hst
            rw [show [fl].flatten = fl by simp, HKT.out] at this
            exact this
          clear hKT
          refine (wpIn_wide (n := 0)).1 ?_
          refine wpIn_region_vals wide_wide [Pr.eq (.slice A27 (n + nz) c27), Pr.eq (.int .i64 ((n + nz : Nat) : Int)), Pr.eq (.bool false), Pr.eq (.bool false), Pr.eq (.slice A27 (n + nz) c27), Pr.eq (.slice A2 fl.length c2), Pr.rowsC 1 [fl], Pr.eq (.agg (hC T)), Pr.eq (.agg (hC T)), Pr.eq (.bool true), Pr.eq (.bool true), Pr.eq (.bool true), Pr.eq (.bool true), Pr.eq (.bool true), Pr.eq (.bool true)] (by kernel_rfl) (by kernel_rfl) (by kernel_rfl) (by kernel_rfl) (by kernel_rfl) ⟨?_, ?_, ?_, ?_, ?_, ?_, ?_, ?_, ?_, ?_, ?_, ?_, ?_, ?_, ?_, trivial⟩ ?_
          · exact fun ac W hL he => stepOk_want rfl (op_move rfl (he.keep (.tmp 27) (by kernel_rfl)))
          · exact fun ac W hL he => stepOk_want rfl (op_len Try.underlying22 rfl (he.get 0 177 (by kernel_rfl) rfl) rfl)
          · exact fun ac W hL he => stepOk_want rfl (op_binOp rfl (he.get 1 178 (by kernel_rfl) rfl) rfl eqg_gtr (HGT.out W) rfl)
          · exact fun ac W hL he => stepOk_want rfl (op_move rfl (he.get 2 179 (by kernel_rfl) rfl))
          · exact fun ac W hL he => stepOk_yes (j := 3) (t := 180) (b := false) rfl rfl (he.get 3 180 (by kernel_rfl) rfl) (op_move rfl (he.keep (.tmp 27) (by kernel_rfl)))
          · exact fun ac W hL he => stepOk_yes (j := 3) (t := 180) (b := false) rfl rfl (he.get 3 180 (by kernel_rfl) rfl) (op_move rfl (he.keep (.tmp 17) (by kernel_rfl)))
          · intro ac W hL he; refine stepOk_yes (j := 3) (t := 180) (b := false) rfl rfl (he.get 3 180 (by kernel_rfl) rfl) ?_; have e0 : ac.eval (.tmp 182) = .slice A2 fl.length c2 := he.get 5 182 (by kernel_rfl) rfl; exact op_buildSlice (W' := _) (vs := #[(0, .slice A2 fl.length c2)]) rfl (by simp only [List.map_toArray, List.map_cons, List.map_nil, e0]) (run_rows1 W _ _ _) ((Later.refl W).alloc _) ⟨_, rfl, RdsC.one 22 rfl (h2r.later hL) rfl h21 h22⟩
          · intro ac W hL he; refine stepOk_yes (j := 3) (t := 180) (b := false) rfl rfl (he.get 3 180 (by kernel_rfl) rfl) ?_; have e0 : ac.eval (.tmp 181) = .slice A27 (n + nz) c27 := he.get 4 181 (by kernel_rfl) rfl; obtain ⟨gq, e1, hrr⟩ : ∃ g, ac.eval (.tmp 183) = .slice (some ⟨g, 0, none⟩) 1 1 ∧ RdsC W (some ⟨g, 0, none⟩) [fl] := he.get 6 183 (by kernel_rfl) rfl; exact op_callF (vs := #[.slice A27 (n + nz) c27, .slice (some ⟨gq, 0, none⟩) 1 1]) rfl (by simp only [List.map_toArray, List.map_cons, List.map_nil, e0, e1]) (enters_of Try.func20 (by kernel_rfl) rfl) ((HTO.out gq W hL hrr).mono fun e W' ⟨he', hb⟩ => ⟨_, he', hb, rfl⟩)
          · exact fun ac W hL he => stepOk_yes (j := 3) (t := 180) (b := false) rfl rfl (he.get 3 180 (by kernel_rfl) rfl) (op_load rfl (he.keep (.tmp 21) (by kernel_rfl)) (loadH HTL.out (hr21.later hL)) rfl)
          · exact fun ac W hL he => stepOk_yes (j := 3) (t := 180) (b := false) rfl rfl (he.get 3 180 (by kernel_rfl) rfl) (op_binOp rfl (he.get 7 184 (by kernel_rfl) rfl) (he.get 8 185 (by kernel_rfl) rfl) (eqgHash _ _ _ _ _ W) (eqlSame T HTL.out W) rfl)
          · exact fun ac W hL he => stepOk_want rfl (op_pick (b := false) rfl (he.get 3 180 (by kernel_rfl) rfl) (he.get 9 186 (by kernel_rfl) rfl))
          · exact fun ac W hL he => stepOk_want rfl (op_move rfl (he.get 10 187 (by kernel_rfl) rfl))
          · intro ac W hL he; refine stepOk_yes (j := 11) (t := 188) (b := true) rfl rfl (he.get 11 188 (by kernel_rfl) rfl) ?_; exact op_callF (vs := #[]) rfl (by simp) (enters_of Try.func10 (by kernel_rfl) rfl) ((works2_yes W).mono fun e W' ⟨he', hb⟩ => ⟨_, he', hb, rfl⟩)
          · exact fun ac W hL he => stepOk_want rfl (op_pick (b := true) rfl (he.get 11 188 (by kernel_rfl) rfl) (he.get 12 189 (by kernel_rfl) rfl))
          · exact fun ac W hL he => stepOk_want rfl (op_assign rfl (he.get 13 190 (by kernel_rfl) rfl))
          intro xs3 W16 hL16 hx
          have hex : xs3 14 = .bool true := hx 14 (by decide)
          clear hx
          simp only [putL, Nat.reduceAdd, Act.put, List.setIfInBounds_toArray, List.set_cons_succ, List.set_cons_zero, hex]
          go_wp2_with fail
          go_ret
          exact ⟨rfl, hL13w.step hL16⟩
        · have HGT : Hid (∀ W, (binOp .gtr 3 (.int .i64 ((n + nz : Nat) : Int)) (.int .i64 64)).run Try.prog W = .ok (.bool true) W) := Lib.hid (gtr64 (n + nz) true (by simp; omega))
          refine (wpIn_wide (n := 0)).1 ?_
          refine wpIn_region_vals wide_wide [Pr.eq (.slice A27 (n + nz) c27), Pr.eq (.int .i64 ((n + nz : Nat) : Int)), Pr.eq (.bool true), Pr.eq (.bool true), Pr.eq undef, Pr.eq undef, Pr.eq undef, Pr.eq undef, Pr.eq undef, Pr.eq undef, Pr.eq (.bool true), Pr.eq (.bool true), Pr.eq (.bool true), Pr.eq (.bool true), Pr.eq (.bool true)] (by kernel_rfl) (by kernel_rfl) (by kernel_rfl) (by kernel_rfl) (by kernel_rfl) ⟨?_, ?_, ?_, ?_, ?_, ?_, ?_, ?_, ?_, ?_, ?_, ?_, ?_, ?_, ?_, trivial⟩ ?_
          · exact fun ac W hL he => stepOk_want rfl (op_move rfl (he.keep (.tmp 27) (by kernel_rfl)))
          · exact fun ac W hL he => stepOk_want rfl (op_len Try.underlying22 rfl (he.get 0 177 (by kernel_rfl) rfl) rfl)
          · exact fun ac W hL he => stepOk_want rfl (op_binOp rfl (he.get 1 178 (by kernel_rfl) rfl) rfl eqg_gtr (HGT.out W) rfl)
          · exact fun ac W hL he => stepOk_want rfl (op_move rfl (he.get 2 179 (by kernel_rfl) rfl))
          · exact fun ac W hL he => stepOk_no rfl rfl (he.get 3 180 (by kernel_rfl) rfl) (by decide) rfl
          · exact fun ac W hL he => stepOk_no rfl rfl (he.get 3 180 (by kernel_rfl) rfl) (by decide) rfl
          · exact fun ac W hL he => stepOk_no rfl rfl (he.get 3 180 (by kernel_rfl) rfl) (by decide) rfl
          · exact fun ac W hL he => stepOk_no rfl rfl (he.get 3 180 (by kernel_rfl) rfl) (by decide) rfl
          · exact fun ac W hL he => stepOk_no rfl rfl (he.get 3 180 (by kernel_rfl) rfl) (by decide) rfl
          · exact fun ac W hL he => stepOk_no rfl rfl (he.get 3 180 (by kernel_rfl) rfl) (by decide) rfl
          · exact fun ac W hL he => stepOk_want rfl (op_pick (b := true) rfl (he.get 3 180 (by kernel_rfl) rfl) rfl)
          · exact fun ac W hL he => stepOk_want rfl (op_move rfl (he.get 10 187 (by kernel_rfl) rfl))
          · intro ac W hL he; refine stepOk_yes (j := 11) (t := 188) (b := true) rfl rfl (he.get 11 188 (by kernel_rfl) rfl) ?_; exact op_callF (vs := #[]) rfl (by simp) (enters_of Try.func10 (by kernel_rfl) rfl) ((works2_yes W).mono fun e W' ⟨he', hb⟩ => ⟨_, he', hb, rfl⟩)
          · exact fun ac W hL he => stepOk_want rfl (op_pick (b := true) rfl (he.get 11 188 (by kernel_rfl) rfl) (he.get 12 189 (by kernel_rfl) rfl))
          · exact fun ac W hL he => stepOk_want rfl (op_assign rfl (he.get 13 190 (by kernel_rfl) rfl))
          intro xs3 W16 hL16 hx
          have hex : xs3 14 = .bool true := hx 14 (by decide)
          clear hx
          simp only [putL, Nat.reduceAdd, Act.put, List.setIfInBounds_toArray, List.set_cons_succ, List.set_cons_zero, hex]
          go_wp2_with fail
          go_ret
          exact ⟨rfl, hL13w.step hL16⟩
end Go.Proofs.Ytbjclmfhmdalkaa
