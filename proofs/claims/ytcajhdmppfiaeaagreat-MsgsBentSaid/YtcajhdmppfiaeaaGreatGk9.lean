/- Walks, msgs: what kinds ask besides: terms. -/
import Derived.Test.YtcajhdmppfiaeaaGreatGk8
import Derived.Test.YtcajhdmppfiaeaaGreatGq
set_option linter.unusedVariables false
set_option linter.unusedSimpArgs false
namespace Go.Proofs.YtcajhdmppfiaeaaGreat
open Go.RowKit Ms
def inB (n a b : Int) : Bool := decide (a ≤ n) && decide (n ≤ b)
theorem min_any (n a b : Int) (w : World) : Calls Tryz.prog 34 #[.int .i64 n, .int .i64 a, .int .i64 b] w fun e w' => w' = w ∧ e = .returned (.bool (inB n a b)) := by
  unfold inB
  by_cases h : a ≤ n
  · have hd : decide (a ≤ n) = true := decide_eq_true h
    rw [hd, Bool.true_and]
    obtain ⟨c, hc⟩ : ∃ c, decide (n ≤ b) = c := ⟨_, rfl⟩
    rw [hc]
    go_enter Tryz.func34, Tryz.ntmps34
    go_wp2
    go_ret
    exact ⟨rfl, rfl⟩
  · have hd : decide (a ≤ n) = false := decide_eq_false h
    rw [hd, Bool.false_and]
    go_enter Tryz.func34, Tryz.ntmps34
    go_wp2
    go_ret
    exact ⟨rfl, rfl⟩
theorem cin_any (n a b : Int) (w : World) : Calls Tryz.prog 144 #[.int .i64 n, .int .i64 a, .int .i64 b] w fun e w' => w' = w ∧ e = .returned (.bool (inB n a b)) := by
  unfold inB
  by_cases h : a ≤ n
  · have hd : decide (a ≤ n) = true := decide_eq_true h
    rw [hd, Bool.true_and]
    obtain ⟨c, hc⟩ : ∃ c, decide (n ≤ b) = c := ⟨_, rfl⟩
    rw [hc]
    go_enter Tryz.func144, Tryz.ntmps144
    go_wp2
    go_ret
    exact ⟨rfl, rfl⟩
  · have hd : decide (a ≤ n) = false := decide_eq_false h
    rw [hd, Bool.false_and]
    go_enter Tryz.func144, Tryz.ntmps144
    go_wp2
    go_ret
    exact ⟨rfl, rfl⟩
theorem bindex_any (A : Option Addr) (n c : Nat) (l : List Bool) (w : World) (hn : l.length = n) (hm : n ≤ 1000000000) (hr : RdV w A (l.map Value.bool)) :
    Calls Tryz.prog 152 #[.slice A n c, .bool false] w fun e w' => w' = w ∧ ∃ k : Int, e = .returned (.int .i64 k) ∧ decide (0 ≤ k) = !l.all id := by
  have HN := Lib.hid hn
  clear hn
  go_enter Tryz.func152, Tryz.ntmps152
  go_wp2_with fail
  go_loopw [8] (fun t wr => wr = w ∧ ∃ i : Nat, i ≤ n ∧ t = .int .i64 (i : Int) ∧ (l.take i).all id = true) (fun t _ => n - (intOf t).toNat)
  case atStart => exact ⟨rfl, 0, by omega, rfl, rfl⟩
  case round =>
    obtain ⟨rfl, i, hi, rfl, hall⟩ := hrel
    by_cases hlt : i < n
    · have hd : decide ((i : Int) < (n : Int)) = true := decide_eq_true (by omega)
      have hd' : decide (i < n) = true := decide_eq_true hlt
      have hil : i < l.length := by rw [HN.out]; exact hlt
      obtain ⟨b, o, rfl, hc⟩ := hr.at_ (k := i) (by simpa using hil)
      rw [List.getElem_map] at hc
      have hnx : l.take (i + 1) = l.take i ++ [l[i]] := List.take_succ_eq_append_getElem hil
      have hsp : l = l.take i ++ (l[i] :: l.drop (i + 1)) := by simp
      generalize hx : l[i] = x at *
      have HNX := Lib.hid hnx
      have HSP := Lib.hid hsp
      clear hnx hsp hr
      cases x
      · go_wp2_with fail
        go_ret
        refine ⟨rfl, _, rfl, ?_⟩
        rw [HSP.out]
        simp
      · go_wp2_with fail
        go_roundw
        case rel => exact ⟨trivial, i + 1, by omega, by go_num, by rw [HNX.out, List.all_append, hall]; simp⟩
        case measure => simp [intOf]; omega
    · obtain rfl : i = n := by omega
      have hd : decide ((i : Int) < (i : Int)) = false := decide_eq_false (by omega)
      rw [List.take_of_length_le (by rw [HN.out]; exact Nat.le_refl _)] at hall
      go_wp2_with fail
      go_ret
      exact ⟨rfl, _, rfl, by rw [hall]; rfl⟩
theorem ball_any (A : Option Addr) (n c : Nat) (l : List Bool) (w : World) (hn : l.length = n) (hm : n ≤ 1000000000) (hr : RdV w A (l.map Value.bool)) :
    Calls Tryz.prog 143 #[.slice A n c] w fun e w' => w' = w ∧ e = .returned (.bool (l.all id)) := by
  have hi := bindex_any A n c l w hn hm hr
  have hct : Calls Tryz.prog 148 #[.slice A n c, .bool false] w fun e w' => w' = w ∧ e = .returned (.bool (!l.all id)) := by
    go_enter Tryz.func148, Tryz.ntmps148
    go_wp2_with (first
      | (go_at_call 152; refine hi.mono ?_; clear hi; rintro e w2 ⟨rfl, k, rfl, hk⟩)
      | fail)
    go_ret
    exact ⟨rfl, by rw [← hk]; rfl⟩
  obtain ⟨b, hb⟩ : ∃ b, l.all id = b := ⟨_, rfl⟩
  rw [hb] at hct ⊢
  clear hi hb
  go_enter Tryz.func143, Tryz.ntmps143
  go_wp2_with (first
    | (go_at_call 148; refine hct.mono ?_; clear hct; rintro e w2 ⟨rfl, rfl⟩)
    | fail)
  go_ret
  exact ⟨rfl, by simp⟩
def Pr.bools (l : List Bool) : Pr := ⟨fun v W => ∃ b, v = .slice (some ⟨b, 0, none⟩) l.length l.length ∧ RdV W (some ⟨b, 0, none⟩) (l.map Value.bool), fun _ _ _ ⟨b, e, h⟩ hL => ⟨b, e, h.later hL⟩⟩
theorem build6 (a b c d e f : Bool) (w : World) : (Instr.buildSlice 195 6 #[(0, .bool a), (1, .bool b), (2, .bool c), (3, .bool d), (4, .bool e), (5, .bool f)]).run Tryz.prog w = .ok (.slice (some ⟨w.heap.size, 0, none⟩) 6 6) (w.alloc (.cells #[.bool a, .bool b, .bool c, .bool d, .bool e, .bool f] 4)) := by kernel_rfl
section
variable {w : World} {g : Nat} {s : Said} {T : TypeId}
theorem termsC_one (s : Said) : (termsC s).all (·.oneCell') = true := by
  rw [Array.all_eq_true_iff_forall_mem]
  intro v hv
  unfold termsC at hv
  obtain ⟨i, hi, e⟩ := Array.mem_iff_getElem.1 hv
  rw [Array.getElem_extract] at e
  exact Array.all_eq_true_iff_forall_mem.1 (saidC_one s) v (by rw [← e]; exact Array.getElem_mem _)
theorem infoTerms : (Tryz.prog.info? 27).map (·.size) = some 101 := by kernel_rfl
theorem infoCTerms : (Tryz.prog.info? 183).map (·.size) = some 101 := by kernel_rfl
theorem boxTerms (h : s.wf) (w : World) : (Instr.box 27 (.agg (termsC s))).run Tryz.prog w = .ok (.pointer (some ⟨w.heap.size, 0, none⟩)) (w.alloc (.cells (termsC s) 27)) := run_box_row w _ _ (by rw [termsC_size h]; exact infoTerms)
theorem boxCTerms (h : s.wf) (w : World) : (Instr.box 183 (.agg (termsC s))).run Tryz.prog w = .ok (.pointer (some ⟨w.heap.size, 0, none⟩)) (w.alloc (.cells (termsC s) 183)) := run_box_row w _ _ (by rw [termsC_size h]; exact infoCTerms)
theorem loadTerms (h : s.wf) (hr : Row w g 27 (termsC s)) : (Instr.loadAt 27 (.pointer (some ⟨g, 0, none⟩))).run Tryz.prog w = .ok (.agg (termsC s)) w :=
  run_load_row hr Tryz.underlying27 rfl (by rw [termsC_size h]; exact infoTerms)
theorem buildCTerms0 (f : Nat → Value) (w : World) : (Instr.build 183 #[(0, .agg ((List.range 101).map f).toArray)]).run Tryz.prog w = .ok (.agg ((List.range 101).map f).toArray) w := by kernel_rfl
theorem array_range (cs : Array Value) (n : Nat) (h : cs.size = n) : cs = ((List.range n).map fun i => cs.getD i undef).toArray := by
  apply Array.ext_getElem?
  intro i
  conv => rhs; rw [List.getElem?_toArray, List.getElem?_map]
  by_cases hi : i < n
  · rw [List.getElem?_range hi, Array.getElem?_eq_getElem (by omega)]
    simp [Array.getD, h, hi]
  · rw [Array.getElem?_eq_none (by omega), List.getElem?_eq_none (by simp; omega)]
    rfl
theorem buildCTerms (h : s.wf) (w : World) : (Instr.build 183 #[(0, .agg (termsC s))]).run Tryz.prog w = .ok (.agg (termsC s)) w := by
  rw [array_range (termsC s) 101 (termsC_size h)]
  exact buildCTerms0 _ w
theorem loadTermN (h : s.wf) (hr : Row w g T (termsC s)) (j : Nat) (hj : j < 5) : (Instr.loadAt 2 (.pointer (some ⟨g, 32 + j, none⟩))).run Tryz.prog w = .ok (.int .i64 (s.n j)) w := by
  have hc : w.cell? ⟨g, 32 + j, none⟩ = some (.int .i64 (s.n j)) := (hr.cell _).trans (termsC_n h j hj)
  go_simp
theorem loadTermK (h : s.wf) (hr : Row w g T (termsC s)) (k : Nat) (hk : k < 2) : (Instr.loadAt 24 (.pointer (some ⟨g, 37 + k * 32, none⟩))).run Tryz.prog w = .ok (.agg (hC (s.h (1 + k)))) w := by
  have hz := hC_size _ (Nat.le_of_eq (h (1 + k) (by omega)))
  exact run_load_part hr (fun i hi => termsC_key h k hk i (by omega)) Tryz.underlying24 rfl (by rw [hz]; exact infoH)
theorem fieldCT {W : World} : (Instr.fieldAt 183 (.pointer (some ⟨g, 0, none⟩)) 0).run Tryz.prog W = .ok (.pointer (some ⟨g, 0, none⟩)) W := by
  go_simp
theorem fieldT1 {W : World} : (Instr.fieldAt 27 (.pointer (some ⟨g, 0, none⟩)) 1).run Tryz.prog W = .ok (.pointer (some ⟨g, 32, none⟩)) W := by
  go_simp
theorem fieldT2 {W : World} : (Instr.fieldAt 27 (.pointer (some ⟨g, 0, none⟩)) 2).run Tryz.prog W = .ok (.pointer (some ⟨g, 33, none⟩)) W := by
  go_simp
theorem fieldT3 {W : World} : (Instr.fieldAt 27 (.pointer (some ⟨g, 0, none⟩)) 3).run Tryz.prog W = .ok (.pointer (some ⟨g, 34, none⟩)) W := by
  go_simp
theorem fieldT4 {W : World} : (Instr.fieldAt 27 (.pointer (some ⟨g, 0, none⟩)) 4).run Tryz.prog W = .ok (.pointer (some ⟨g, 35, none⟩)) W := by
  go_simp
theorem fieldT5 {W : World} : (Instr.fieldAt 27 (.pointer (some ⟨g, 0, none⟩)) 5).run Tryz.prog W = .ok (.pointer (some ⟨g, 36, none⟩)) W := by
  go_simp
theorem fieldT6 {W : World} : (Instr.fieldAt 27 (.pointer (some ⟨g, 0, none⟩)) 6).run Tryz.prog W = .ok (.pointer (some ⟨g, 37, none⟩)) W := by
  go_simp
theorem idxK0 {W : World} : (Instr.indexAt 25 (.pointer (some ⟨g, 37, none⟩)) (.int .i64 0)).run Tryz.prog W = .ok (.pointer (some ⟨g, 37, none⟩)) W := by
  go_simp
theorem idxK1 {W : World} : (Instr.indexAt 25 (.pointer (some ⟨g, 37, none⟩)) (.int .i64 1)).run Tryz.prog W = .ok (.pointer (some ⟨g, 69, none⟩)) W := by
  go_simp
end
def kD (s : Said) : Bool := !(s.key0 == s.key1)
/-- May an opening's terms be, of two keys? -/
def tmB (s : Said) : Bool := inB s.tix 0 23 && (inB s.cap 1000 1125899906842624 && (inB s.dust 1 500 && (inB s.fee 0 400 && (inB s.delay 1 1000 && ((kD s) && true)))))
set_option maxRecDepth 100000 in
set_option maxHeartbeats 1000000 in
theorem cright_any (s : Said) (hs : s.wf) (w : World) : Calls Tryz.prog 139 #[.agg (termsC s)] w fun e w' => e = .returned (.bool (tmB s)) ∧ Later w w' := by
  have kq := Row.new w 183 (termsC s)
  have hb := below_new w (.cells (termsC s) 183)
  have hbx := boxCTerms hs w
  have hk0 := hs 1 (by decide)
  have hk1 := hs 2 (by decide)
  have K0 := Lib.hid hk0
  have K1 := Lib.hid hk1
  clear hk0 hk1
  go_enter Tryz.func139, Tryz.ntmps139
  go_upto_region 1 with fail
  obtain ⟨q, hq⟩ : ∃ q, q = w.heap.size := ⟨_, rfl⟩
  rw [← hq] at kq ⊢
  generalize w.alloc (.cells (termsC s) 183) = w1 at *
  clear hq hbx
  refine (wpIn_wide (n := 0)).1 ?_
  refine wpIn_region_last wide_wide [Pr.eq (.pointer (some ⟨q, 0, none⟩)), Pr.eq (.pointer (some ⟨q, 32, none⟩)), Pr.eq (.int .i64 s.tix), Pr.eq (.bool (inB s.tix 0 23)), Pr.eq (.pointer (some ⟨q, 0, none⟩)), Pr.eq (.pointer (some ⟨q, 33, none⟩)), Pr.eq (.int .i64 s.cap), Pr.eq (.bool (inB s.cap 1000 1125899906842624)), Pr.eq (.pointer (some ⟨q, 0, none⟩)), Pr.eq (.pointer (some ⟨q, 34, none⟩)), Pr.eq (.int .i64 s.dust), Pr.eq (.bool (inB s.dust 1 500)), Pr.eq (.pointer (some ⟨q, 0, none⟩)), Pr.eq (.pointer (some ⟨q, 35, none⟩)), Pr.eq (.int .i64 s.fee), Pr.eq (.bool (inB s.fee 0 400)), Pr.eq (.pointer (some ⟨q, 0, none⟩)), Pr.eq (.pointer (some ⟨q, 36, none⟩)), Pr.eq (.int .i64 s.delay), Pr.eq (.bool (inB s.delay 1 1000)), Pr.eq (.pointer (some ⟨q, 0, none⟩)), Pr.eq (.pointer (some ⟨q, 37, none⟩)), Pr.eq (.pointer (some ⟨q, 37, none⟩)), Pr.eq (.agg (hC s.key0)), Pr.eq (.pointer (some ⟨q, 0, none⟩)), Pr.eq (.pointer (some ⟨q, 37, none⟩)), Pr.eq (.pointer (some ⟨q, 69, none⟩)), Pr.eq (.agg (hC s.key1)), Pr.eq (.bool (kD s)), Pr.bools [inB s.tix 0 23, inB s.cap 1000 1125899906842624, inB s.dust 1 500, inB s.fee 0 400, inB s.delay 1 1000, kD s], Pr.eq (.bool (tmB s))] (by kernel_rfl) (by kernel_rfl) (by kernel_rfl) (by kernel_rfl) (by kernel_rfl) (by kernel_rfl) rfl ⟨?_, ?_, ?_, ?_, ?_, ?_, ?_, ?_, ?_, ?_, ?_, ?_, ?_, ?_, ?_, ?_, ?_, ?_, ?_, ?_, ?_, ?_, ?_, ?_, ?_, ?_, ?_, ?_, ?_, ?_, ?_, trivial⟩ ?_
  · exact fun ac W hL he => stepOk_want rfl (op_fieldAddr rfl (he.keep (.tmp 1) (by kernel_rfl)) fieldCT rfl)
  · exact fun ac W hL he => stepOk_want rfl (op_fieldAddr rfl (he.get 0 3 (by kernel_rfl) rfl) fieldT1 rfl)
  · exact fun ac W hL he => stepOk_want rfl (op_load rfl (he.get 1 4 (by kernel_rfl) rfl) (loadTermN hs (kq.later hL) 0 (by decide)) rfl)
  · intro ac W hL he; refine stepOk_want rfl ?_; have e0 : ac.eval (.tmp 5) = .int .i64 s.tix := (he.get 2 5 (by kernel_rfl) rfl); exact op_callF (vs := #[.int .i64 s.tix, .int .i64 0, .int .i64 23]) rfl (by simp only [List.map_toArray, List.map_cons, List.map_nil, e0, (show ac.eval (.const (.int .i64 0)) = .int .i64 0 from rfl), (show ac.eval (.const (.int .i64 23)) = .int .i64 23 from rfl)]) (enters_of Tryz.func144 (by kernel_rfl) rfl) ((cin_any s.tix 0 23 W).mono fun e W' ⟨hw', he'⟩ => ⟨_, he', hw' ▸ Later.refl _, rfl⟩)
  · exact fun ac W hL he => stepOk_want rfl (op_fieldAddr rfl (he.keep (.tmp 1) (by kernel_rfl)) fieldCT rfl)
  · exact fun ac W hL he => stepOk_want rfl (op_fieldAddr rfl (he.get 4 7 (by kernel_rfl) rfl) fieldT2 rfl)
  · exact fun ac W hL he => stepOk_want rfl (op_load rfl (he.get 5 8 (by kernel_rfl) rfl) (loadTermN hs (kq.later hL) 1 (by decide)) rfl)
  · intro ac W hL he; refine stepOk_want rfl ?_; have e0 : ac.eval (.tmp 9) = .int .i64 s.cap := (he.get 6 9 (by kernel_rfl) rfl); exact op_callF (vs := #[.int .i64 s.cap, .int .i64 1000, .int .i64 1125899906842624]) rfl (by simp only [List.map_toArray, List.map_cons, List.map_nil, e0, (show ac.eval (.const (.int .i64 1000)) = .int .i64 1000 from rfl), (show ac.eval (.const (.int .i64 1125899906842624)) = .int .i64 1125899906842624 from rfl)]) (enters_of Tryz.func144 (by kernel_rfl) rfl) ((cin_any s.cap 1000 1125899906842624 W).mono fun e W' ⟨hw', he'⟩ => ⟨_, he', hw' ▸ Later.refl _, rfl⟩)
  · exact fun ac W hL he => stepOk_want rfl (op_fieldAddr rfl (he.keep (.tmp 1) (by kernel_rfl)) fieldCT rfl)
  · exact fun ac W hL he => stepOk_want rfl (op_fieldAddr rfl (he.get 8 11 (by kernel_rfl) rfl) fieldT3 rfl)
  · exact fun ac W hL he => stepOk_want rfl (op_load rfl (he.get 9 12 (by kernel_rfl) rfl) (loadTermN hs (kq.later hL) 2 (by decide)) rfl)
  · intro ac W hL he; refine stepOk_want rfl ?_; have e0 : ac.eval (.tmp 13) = .int .i64 s.dust := (he.get 10 13 (by kernel_rfl) rfl); exact op_callF (vs := #[.int .i64 s.dust, .int .i64 1, .int .i64 500]) rfl (by simp only [List.map_toArray, List.map_cons, List.map_nil, e0, (show ac.eval (.const (.int .i64 1)) = .int .i64 1 from rfl), (show ac.eval (.const (.int .i64 500)) = .int .i64 500 from rfl)]) (enters_of Tryz.func144 (by kernel_rfl) rfl) ((cin_any s.dust 1 500 W).mono fun e W' ⟨hw', he'⟩ => ⟨_, he', hw' ▸ Later.refl _, rfl⟩)
  · exact fun ac W hL he => stepOk_want rfl (op_fieldAddr rfl (he.keep (.tmp 1) (by kernel_rfl)) fieldCT rfl)
  · exact fun ac W hL he => stepOk_want rfl (op_fieldAddr rfl (he.get 12 15 (by kernel_rfl) rfl) fieldT4 rfl)
  · exact fun ac W hL he => stepOk_want rfl (op_load rfl (he.get 13 16 (by kernel_rfl) rfl) (loadTermN hs (kq.later hL) 3 (by decide)) rfl)
  · intro ac W hL he; refine stepOk_want rfl ?_; have e0 : ac.eval (.tmp 17) = .int .i64 s.fee := (he.get 14 17 (by kernel_rfl) rfl); exact op_callF (vs := #[.int .i64 s.fee, .int .i64 0, .int .i64 400]) rfl (by simp only [List.map_toArray, List.map_cons, List.map_nil, e0, (show ac.eval (.const (.int .i64 0)) = .int .i64 0 from rfl), (show ac.eval (.const (.int .i64 400)) = .int .i64 400 from rfl)]) (enters_of Tryz.func144 (by kernel_rfl) rfl) ((cin_any s.fee 0 400 W).mono fun e W' ⟨hw', he'⟩ => ⟨_, he', hw' ▸ Later.refl _, rfl⟩)
  · exact fun ac W hL he => stepOk_want rfl (op_fieldAddr rfl (he.keep (.tmp 1) (by kernel_rfl)) fieldCT rfl)
  · exact fun ac W hL he => stepOk_want rfl (op_fieldAddr rfl (he.get 16 19 (by kernel_rfl) rfl) fieldT5 rfl)
  · exact fun ac W hL he => stepOk_want rfl (op_load rfl (he.get 17 20 (by kernel_rfl) rfl) (loadTermN hs (kq.later hL) 4 (by decide)) rfl)
  · intro ac W hL he; refine stepOk_want rfl ?_; have e0 : ac.eval (.tmp 21) = .int .i64 s.delay := (he.get 18 21 (by kernel_rfl) rfl); exact op_callF (vs := #[.int .i64 s.delay, .int .i64 1, .int .i64 1000]) rfl (by simp only [List.map_toArray, List.map_cons, List.map_nil, e0, (show ac.eval (.const (.int .i64 1)) = .int .i64 1 from rfl), (show ac.eval (.const (.int .i64 1000)) = .int .i64 1000 from rfl)]) (enters_of Tryz.func144 (by kernel_rfl) rfl) ((cin_any s.delay 1 1000 W).mono fun e W' ⟨hw', he'⟩ => ⟨_, he', hw' ▸ Later.refl _, rfl⟩)
  · exact fun ac W hL he => stepOk_want rfl (op_fieldAddr rfl (he.keep (.tmp 1) (by kernel_rfl)) fieldCT rfl)
  · exact fun ac W hL he => stepOk_want rfl (op_fieldAddr rfl (he.get 20 23 (by kernel_rfl) rfl) fieldT6 rfl)
  · exact fun ac W hL he => stepOk_want rfl (op_idx rfl (he.get 21 24 (by kernel_rfl) rfl) rfl idxK0 rfl)
  · exact fun ac W hL he => stepOk_want rfl (op_load rfl (he.get 22 25 (by kernel_rfl) rfl) (loadTermK hs (kq.later hL) 0 (by decide)) rfl)
  · exact fun ac W hL he => stepOk_want rfl (op_fieldAddr rfl (he.keep (.tmp 1) (by kernel_rfl)) fieldCT rfl)
  · exact fun ac W hL he => stepOk_want rfl (op_fieldAddr rfl (he.get 24 27 (by kernel_rfl) rfl) fieldT6 rfl)
  · exact fun ac W hL he => stepOk_want rfl (op_idx rfl (he.get 25 28 (by kernel_rfl) rfl) rfl idxK1 rfl)
  · exact fun ac W hL he => stepOk_want rfl (op_load rfl (he.get 26 29 (by kernel_rfl) rfl) (loadTermK hs (kq.later hL) 1 (by decide)) rfl)
  · exact fun ac W hL he => stepOk_want rfl (op_binOp rfl (he.get 23 26 (by kernel_rfl) rfl) (he.get 27 30 (by kernel_rfl) rfl) (by kernel_rfl) (neqHash s.key0 s.key1 K0.out K1.out W) rfl)
  · intro ac W hL he; refine stepOk_want rfl ?_; have e6 : ac.eval (.tmp 6) = .bool (inB s.tix 0 23) := he.get 3 6 (by kernel_rfl) rfl; have e10 : ac.eval (.tmp 10) = .bool (inB s.cap 1000 1125899906842624) := he.get 7 10 (by kernel_rfl) rfl; have e14 : ac.eval (.tmp 14) = .bool (inB s.dust 1 500) := he.get 11 14 (by kernel_rfl) rfl; have e18 : ac.eval (.tmp 18) = .bool (inB s.fee 0 400) := he.get 15 18 (by kernel_rfl) rfl; have e22 : ac.eval (.tmp 22) = .bool (inB s.delay 1 1000) := he.get 19 22 (by kernel_rfl) rfl; have e31 : ac.eval (.tmp 31) = .bool (kD s) := he.get 28 31 (by kernel_rfl) rfl; exact op_buildSlice (vs := #[(0, .bool (inB s.tix 0 23)), (1, .bool (inB s.cap 1000 1125899906842624)), (2, .bool (inB s.dust 1 500)), (3, .bool (inB s.fee 0 400)), (4, .bool (inB s.delay 1 1000)), (5, .bool (kD s))]) rfl (by simp only [List.map_toArray, List.map_cons, List.map_nil, e6, e10, e14, e18, e22, e31]) (build6 _ _ _ _ _ _ W) ((Later.refl W).alloc _) ⟨_, rfl, RdV.row (Row.new W _ _)⟩
  · intro ac W hL he; refine stepOk_want rfl ?_; obtain ⟨b, e32, hrd⟩ : ∃ b, ac.eval (.tmp 32) = .slice (some ⟨b, 0, none⟩) 6 6 ∧ RdV W (some ⟨b, 0, none⟩) ([inB s.tix 0 23, inB s.cap 1000 1125899906842624, inB s.dust 1 500, inB s.fee 0 400, inB s.delay 1 1000, kD s].map Value.bool) := he.get 29 32 (by kernel_rfl) rfl; exact op_callF (vs := #[.slice (some ⟨b, 0, none⟩) 6 6]) rfl (by simp only [List.map_toArray, List.map_cons, List.map_nil, e32]) (enters_of Tryz.func143 (by kernel_rfl) rfl) ((ball_any _ 6 6 _ W rfl (by decide) hrd).mono fun e W' ⟨hw', he'⟩ => ⟨_, he', hw' ▸ Later.refl _, rfl⟩)
  intro xs W hL hx hk hgt
  have e33 := hgt 30 33 (by decide) (by kernel_rfl)
  rw [show xs 30 = .bool (tmB s) from hx 30 (by decide)] at e33
  refine last_assign rfl e33 ?_
  clear hx hk hgt e33
  simp only [initL, lastL, putL, Nat.reduceAdd, Act.put, List.setIfInBounds_toArray, List.set_cons_succ, List.set_cons_zero]
  have HL := Lib.hid (Later.step hb hL)
  go_wp2_with fail
  go_ret
  exact ⟨rfl, HL.out⟩
end Go.Proofs.YtcajhdmppfiaeaaGreat
