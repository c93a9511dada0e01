/- Walks: right; a number asked of both readers. -/
import Derived.Test.YtmipaacobioakaaWr20
set_option linter.unusedVariables false
set_option linter.unusedSimpArgs false
namespace Go.Proofs.Ytmipaacobioakaa
open Go.RowKit
theorem right_any (A : Option Addr) (n c : Nat) (l : List Int) (w : World) (hn : l.length = n) (hm : n ≤ 1000000000) (hr : RdV w A (l.map numV)) :
    Calls Try.prog 12 #[.slice A n c] w fun e w' => e = .returned (.bool (!(l.any Wr.wrong))) ∧ w = w' := by
  have HN := Lib.hid hn
  clear hn
  go_enter Try.func12, Try.ntmps12
  go_wp2_with fail
  go_loopw [3] (fun t wr => wr = w ∧ ∃ i : Nat, i ≤ n ∧ t = .int .i64 (i : Int) ∧ (l.take i).any Wr.wrong = false) (fun t _ => n - (intOf t).toNat)
  case atStart => exact ⟨rfl, 0, by omega, rfl, rfl⟩
  case round =>
    obtain ⟨rfl, i, hi, rfl, hany⟩ := hrel
    by_cases hlt : i < n
    · have hd : decide ((i : Int) < (n : Int)) = true := decide_eq_true (by omega)
      have hd' : decide (i < n) = true := decide_eq_true hlt
      have hil : i < l.length := by rw [HN.out]; exact hlt
      obtain ⟨b, o, rfl, hc⟩ := hr.at_ (k := i) (by simpa using hil)
      rw [List.getElem_map] at hc
      have hnx : l.take (i + 1) = l.take i ++ [l[i]] := List.take_succ_eq_append_getElem hil
      have hsp : l = l.take i ++ (l[i] :: l.drop (i + 1)) := by simp
      generalize hx : l[i] = x at *
      have HNX := Lib.hid hnx
      have HSP := Lib.hid hsp
      clear hnx hsp hr
      by_cases h1 : x < 0
      · have d1 : decide (x < 0) = true := decide_eq_true h1
        have hw : Wr.wrong x = true := by unfold Wr.wrong; rw [d1]; rfl
        go_wp2_with fail
        go_ret
        refine ⟨?_, rfl⟩
        rw [HSP.out]
        simp [hw]
      · have d1 : decide (x < 0) = false := decide_eq_false h1
        by_cases h2 : 4611686018427387904 < x
        · have d2 : decide (4611686018427387904 < x) = true := decide_eq_true h2
          have hw : Wr.wrong x = true := by unfold Wr.wrong; rw [d1, d2]; rfl
          go_wp2_with fail
          go_ret
          refine ⟨?_, rfl⟩
          rw [HSP.out]
          simp [hw]
        · have d2 : decide (4611686018427387904 < x) = false := decide_eq_false h2
          have hw' : Wr.wrong x = false := by unfold Wr.wrong; rw [d1, d2]; rfl
          go_wp2_with fail
          go_roundw
          case rel => exact ⟨trivial, i + 1, by omega, by go_num, by rw [HNX.out, List.any_append, hany]; simp [hw']⟩
          case measure => simp [intOf]; omega
    · obtain rfl : i = n := by omega
      have hd : decide ((i : Int) < (i : Int)) = false := decide_eq_false (by omega)
      rw [List.take_of_length_le (by rw [HN.out]; exact Nat.le_refl _)] at hany
      go_wp2_with fail
      go_ret
      exact ⟨by rw [hany]; rfl, rfl⟩
theorem numE_any (n : Int) (w : World) : Calls Try.prog 13 #[.int .i64 n] w fun e w' => e = .returned (.int .i64 n) ∧ w = w' := by
  go_enter Try.func13, Try.ntmps13
  go_wp2
  go_ret
  exact ⟨rfl, rfl⟩
theorem Rd.keep2 {p : Nat → Prop} {w w' : World} {A : Option Addr} {l : List UInt8} (h : Rd w A l) (hs : Same p w w') (hp : ∀ b o x, w.cell? ⟨b, o, none⟩ = some (byteV x) → p b) : Rd w' A l := h.same hs fun b o e hl => by
  obtain ⟨b', o', e', hc⟩ := h hl
  have e2 := e.symm.trans e'
  injection e2 with e2
  injection e2 with e3 e4
  subst e3
  exact hp _ _ _ (hc 0 (List.length_pos_iff.2 hl))
theorem IsRd.same {p : Nat → Prop} {w w' : World} {g : Nat} {l : List UInt8} {bad : Bool} (h : IsRd w g l bad) (hs : Same p w w') (hg : p g) (hp : ∀ b o x, w.cell? ⟨b, o, none⟩ = some (byteV x) → p b) : IsRd w' g l bad := by
  obtain ⟨A, c, h1, h2, h3, h4⟩ := h
  exact ⟨A, c, h1.same hs hg, h2, h3, h4.keep2 hs hp⟩
theorem IsRd.later {w w' : World} {g : Nat} {l : List UInt8} {bad : Bool} (h : IsRd w g l bad) (hL : Later w w') : IsRd w' g l bad := by
  obtain ⟨A, c, h1, h2, h3, h4⟩ := h
  exact ⟨A, c, h1.later hL, h2, h3, h4.later hL⟩
theorem IsRd.lt {w : World} {g : Nat} {l : List UInt8} {bad : Bool} (h : IsRd w g l bad) : g < w.heap.size := by
  obtain ⟨A, c, h1, h2, h3, h4⟩ := h
  exact h1.lt
theorem rf_no_byte {w : World} {q : Nat} {t : TypeId} {A : Option Addr} {n c : Nat} {bad : Bool} (hr : Row w q t (rfV A n c bad)) {b o : Nat} {x : UInt8} (hc : w.cell? ⟨b, o, none⟩ = some (byteV x)) : b ≠ q := fun e => by
  subst e
  rw [hr.cell] at hc
  rcases o with _ | _ | o <;> simp [rfV, byteV] at hc
theorem results_ask {P : Program} {fn : Func} {p q : Tmp} {ty : TypeId} (h : fn.results = #[.cell p ty, .tmp q]) {tmps : Array Value} {w : World} {g : Nat} {t : TypeId} {cs : Array Value} {d : TypeDesc} {v : Value}
    (hp : tmps.getD p undef = .pointer (some ⟨g, 0, none⟩)) (hq : tmps.getD q undef = v) (hg : Row w g t cs)
    (hu : P.underlying ty = some d) (hd : (match d with | .struct _ | .array _ _ => true | _ => false) = true) (hi : (P.info? ty).map (·.size) = some cs.size) :
    (results fn tmps).run P w = .ok (.tuple #[.agg cs, v]) w := results_cell_tmp h tmps w g t cs (0, 0) d v hp hq hg hu hd hi
/-- What both readers hand back for a call. -/
def Asked (w : World) (g : Nat) (A : Option Addr) (l : List UInt8) (l' : List UInt8) (bad' : Bool) (e : Ending) (w' : World) : Prop :=
  Same (fun k => k < w.heap.size ∧ k ≠ g) w w' ∧ IsRd w' g l' bad' ∧ ∃ v, e = .returned (.tuple #[v, .bool true]) ∧ RefV A l v l' bad'
section
variable {P : Program} {W : World}
theorem eqgI {op : BinOp} {t : TypeId} {x y : Operand} {k k' : IntKind} {i j : Int} : (eqGuard op t x y (.int k i) (.int k' j)).run P W = .ok () W := by cases op <;> rfl
theorem eqgB {op : BinOp} {t : TypeId} {x y : Operand} {i j : Bool} : (eqGuard op t x y (.bool i) (.bool j)).run P W = .ok () W := by cases op <;> rfl
theorem eqgS {op : BinOp} {t : TypeId} {x y : Operand} {i j : ByteArray} : (eqGuard op t x y (.string i) (.string j)).run P W = .ok () W := by cases op <;> rfl
theorem eqlI (t : TypeId) (k : IntKind) (i j : Int) : (binOp .eql t (.int k i) (.int k j)).run P W = .ok (.bool (i == j)) W := by go_simp
theorem neqI (t : TypeId) (k : IntKind) (i j : Int) : (binOp .neq t (.int k i) (.int k j)).run P W = .ok (.bool (i != j)) W := by go_simp
theorem eqlI_self (t : TypeId) (k : IntKind) (i : Int) : (binOp .eql t (.int k i) (.int k i)).run P W = .ok (.bool true) W := by rw [eqlI, beq_self_eq_true]
theorem eqlS_self (t : TypeId) (i : ByteArray) : (binOp .eql t (.string i) (.string i)).run P W = .ok (.bool true) W := by go_simp
theorem neqS_self (t : TypeId) (i : ByteArray) : (binOp .neq t (.string i) (.string i)).run P W = .ok (.bool false) W := by go_simp
end
theorem eqlB_self {W : World} (i : Bool) : (binOp .eql 4 (.bool i) (.bool i)).run Try.prog W = .ok (.bool true) W := by go_simp
theorem neqB_self {W : World} (i : Bool) : (binOp .neq 4 (.bool i) (.bool i)).run Try.prog W = .ok (.bool false) W := by go_simp
set_option maxRecDepth 100000 in
set_option maxHeartbeats 1000000 in
theorem ask0_any (g : Nat) (A : Option Addr) (n c : Nat) (l : List UInt8) (bad : Bool) (most : Int) (w : World) (hn : l.length = n) (hc : n ≤ c) (hcm : c ≤ 9223372036854775807) (hnm : n ≤ 9223372036854775000) (hr : Rd w A l) (hw : IsRd w g l bad) :
    Calls Try.prog 16 #[.pointer (some ⟨g, 0, none⟩), .agg (rfV A n c bad), .agg #[.int .i64 0, .int .i64 most]] w (Asked w g A l (Wr.numR l bad most).1.1 (Wr.numR l bad most).1.2) := by
  have k4 := ((Row.new w 34 (rfV A n c bad)).alloc (.cells #[.int .i64 0, .int .i64 most] 40)).alloc (.cells (rfV none 0 0 false) 34)
  have k5 := (Row.new (w.alloc (.cells (rfV A n c bad) 34)) 40 #[.int .i64 0, .int .i64 most]).alloc (.cells (rfV none 0 0 false) 34)
  have k6 := Row.new ((w.alloc (.cells (rfV A n c bad) 34)).alloc (.cells #[.int .i64 0, .int .i64 most] 40)) 34 (rfV none 0 0 false)
  have hb := ((((Later.refl w).alloc (.cells (rfV A n c bad) 34)).alloc (.cells #[.int .i64 0, .int .i64 most] 40)).alloc (.cells (rfV none 0 0 false) 34))
  have hgl := hw.lt
  refine Calls.post fun Φ HΦ => ?_
  go_enter Try.func16, Try.ntmps16
  go_upto_region 1 with (first
    | (with_reducible refine wpList_alloc rfl 34 rfl (allocRf _) ?_)
    | fail)
  simp only [World.size_alloc] at k5 k6 ⊢
  obtain ⟨q, hq⟩ : ∃ q, q = w.heap.size := ⟨_, rfl⟩
  rw [← hq] at k4 k5 k6 hgl ⊢
  generalize ((w.alloc (.cells (rfV A n c bad) 34)).alloc (.cells #[.int .i64 0, .int .i64 most] 40)).alloc (.cells (rfV none 0 0 false) 34) = w1 at *
  have HQ := Lib.hid hq
  have HN := Lib.hid hn
  clear hq hn
  have c50 : w1.cell? ⟨q + 1, 0, none⟩ = some (.int .i64 0) := (k5.cell 0).trans rfl
  have c51 : w1.cell? ⟨q + 1, 1, none⟩ = some (.int .i64 most) := (k5.cell 1).trans rfl
  have hld := loadRf k4
  have hnum := refNumberR_any A n c l bad most w1 HN.out hc hcm hnm (hr.later hb)
  have hw1 := hw.later hb
  have hnum3 := fun W (h : IsRd W g l bad) => rNumber_any g l bad most W h
  generalize Wr.numR l bad most = R at *
  obtain ⟨⟨l', bad'⟩, x, no⟩ := R
  go_upto_region 5 with (first
    | (refine wpList_load rfl 34 (.tmp 4) rfl (.pointer (some ⟨q, 0, none⟩)) rfl hld ?_)
    | (go_at_call 42; refine hnum.mono ?_; clear hnum; rintro e w2 ⟨hL2, v, rfl, D, c2, rfl, hcc, hcm2, hD⟩; obtain ⟨w3, hst, k83, hg3⟩ := storeRf (A' := D) (n' := l'.length) (c' := c2) (bad' := bad') (Row.new w2 34 (rfV none 0 0 false)))
    | (with_reducible refine wpList_alloc rfl 34 rfl (allocRf _) ?_)
    | (refine wpList_store rfl 34 (.tmp 8) (.tmp 40) rfl (.pointer (some ⟨w2.heap.size, 0, none⟩)) (.agg (rfV D l'.length c2 bad')) rfl rfl hst ?_; have hL23 : Later w2 w3 := ((Later.refl w2).alloc (.cells (rfV none 0 0 false) 34)).grown hg3 (by simp) (fun j e => by cases e; omega); have c513 := (hL2.step hL23).cell c51; have hnum3 := hnum3 w3 (hw1.later (hL2.step hL23)))
    | (go_at_call 19; refine hnum3.mono ?_; clear hnum3; rintro e w4 ⟨hs4, rfl, hw4⟩)
    | fail)
  have hlt8 := k83.lt
  have hs14 : Later w1 w3 := hL2.step hL23
  have k63 := k6.later hs14
  have hlt6 := k63.lt
  obtain ⟨q8, hq8⟩ : ∃ q, q = w2.heap.size := ⟨_, rfl⟩
  rw [← hq8] at k83 hlt8 ⊢
  have hlt62 := (k6.later hL2).lt
  have k84 := k83.same hs4 ⟨hlt8, by have := hb.size; have := hL2.size; have := hw1.lt; omega⟩
  have k64 := k63.same hs4 ⟨hlt6, by omega⟩
  have hne8 : q8 ≠ q + 1 + 1 := by omega
  have hS : Same (fun k => k < w.heap.size ∧ k ≠ g) w w4 := ((Same.of_below hb).mono (fun k h => h.1)).trans (((Same.of_below hs14).mono (fun k h => Nat.lt_of_lt_of_le h.1 hb.size)).trans (hs4.mono (fun k h => ⟨Nat.lt_of_lt_of_le h.1 (Nat.le_trans hb.size hs14.size), h.2⟩)))
  have hfin : ∀ W, Later w4 W → ∀ W', W.grownBy W' (some (q + 1 + 1)) → Same (fun k => k < w.heap.size ∧ k ≠ g) w W' ∧ IsRd W' g l' bad' := fun W hL W' hg => by
    have h1 := hw4.later hL
    have k6W := k64.later hL
    have hs := Same.of_grown hg
    have hq := HQ.out
    have hsz := hL.size
    have hgW := h1.lt
    refine ⟨(hS.trans ((Same.of_below hL).mono fun k h => ?_)).trans (hs.mono fun k h => ⟨?_, ?_⟩), h1.same hs ⟨hgW, ?_⟩ fun b o x hc => ⟨block_lt_of_cell hc, fun e => rf_no_byte k6W hc (Option.some.inj e)⟩⟩
    · have := hS.size; have := h.1; omega
    · have := hS.size; have := h.1; omega
    · intro e; have := Option.some.inj e; have := h.1; omega
    · intro e; have := Option.some.inj e; omega
  have H8 := Lib.hid hq8
  have HS := Lib.hid hfin
  clear hfin hS hs4 hq8 hst hg3 hL23 c513
  refine (wpIn_wide (n := 0)).1 ?_
  refine wpIn_region_pivot wide_wide 10 [.agg (rfV D l'.length c2 bad'), .int .i64 x, .int .i64 x, .bool true, .bool true, .int .i64 no, .int .i64 no, .int .i64 no, .bool true, .bool true, undef] (fun W => Later w4 W) (fun y W => ∃ X W', Later w4 X ∧ X.grownBy W' (some (q + 1 + 1)) ∧ Later W' W ∧ Row W (q + 1 + 1) 34 (rfV D l'.length c2 bad') ∧ Row W q8 34 (rfV D l'.length c2 bad')) (fun W W' h k => k.step h) (fun y W W' h ⟨X, X', h1, h2, h3, h4, h5⟩ => ⟨X, X', h1, h2, h3.step h, h4.later h, h5.later h⟩) (Later.refl _) (by kernel_rfl) (by kernel_rfl) (by kernel_rfl) (by kernel_rfl) (by kernel_rfl) (by kernel_rfl) rfl (by kernel_rfl) (by kernel_rfl) ⟨?_, ?_, ?_, ?_, ?_, ?_, ?_, ?_, ?_, ?_, ?_, trivial⟩ ?_
  · exact fun ac W dd xx he => stepOk_want rfl (op_load rfl (he.keep (.tmp 8) (by kernel_rfl)) (loadRf (he.both (C := fun W => Row W q8 34 (rfV D l'.length c2 bad')) (fun W h => k84.later h) (fun y W ⟨_, _, _, _, _, _, h5⟩ => h5))) rfl)
  · exact fun ac W dd xx he => stepOk_want rfl (op_move rfl (he.keep (.tmp 11) (by kernel_rfl)))
  · exact fun ac W dd xx he => stepOk_want rfl (op_move rfl (he.keep (.tmp 9) (by kernel_rfl)))
  · exact fun ac W dd xx he => stepOk_want rfl (op_binOp rfl (show ac.eval (.tmp 51) = .int .i64 x from he.val 1 51 (by kernel_rfl) rfl rfl) (show ac.eval (.tmp 52) = .int .i64 x from he.val 2 52 (by kernel_rfl) rfl rfl) eqgI (eqlI_self _ _ _) rfl)
  · exact fun ac W dd xx he => stepOk_want rfl (op_move rfl (show ac.eval (.tmp 53) = .bool true from he.val 3 53 (by kernel_rfl) rfl rfl))
  · exact fun ac W dd xx he => stepOk_yes (j := 4) (t := 54) (b := true) rfl rfl (show ac.eval (.tmp 54) = .bool true from he.val 4 54 (by kernel_rfl) rfl rfl) (op_move rfl (he.keep (.tmp 12) (by kernel_rfl)))
  · intro ac W dd xx he; refine stepOk_yes (j := 4) (t := 54) (b := true) rfl rfl (show ac.eval (.tmp 54) = .bool true from he.val 4 54 (by kernel_rfl) rfl rfl) ?_; have e0 : ac.eval (.tmp 55) = .int .i64 no := (show ac.eval (.tmp 55) = .int .i64 no from he.val 5 55 (by kernel_rfl) rfl rfl); exact op_callF (vs := #[.int .i64 no]) rfl (by simp only [List.map_toArray, List.map_cons, List.map_nil, e0]) (enters_of Try.func13 (by kernel_rfl) rfl) ((numE_any no W).mono fun e W' ⟨he', hw'⟩ => ⟨_, he', hw' ▸ Later.refl _, rfl⟩)
  · exact fun ac W dd xx he => stepOk_yes (j := 4) (t := 54) (b := true) rfl rfl (show ac.eval (.tmp 54) = .bool true from he.val 4 54 (by kernel_rfl) rfl rfl) (op_move rfl (he.keep (.tmp 10) (by kernel_rfl)))
  · exact fun ac W dd xx he => stepOk_yes (j := 4) (t := 54) (b := true) rfl rfl (show ac.eval (.tmp 54) = .bool true from he.val 4 54 (by kernel_rfl) rfl rfl) (op_binOp rfl (show ac.eval (.tmp 56) = .int .i64 no from he.val 6 56 (by kernel_rfl) rfl rfl) (show ac.eval (.tmp 57) = .int .i64 no from he.val 7 57 (by kernel_rfl) rfl rfl) eqgI (eqlI_self _ _ _) rfl)
  · exact fun ac W dd xx he => stepOk_want rfl (op_pick (b := true) rfl (show ac.eval (.tmp 54) = .bool true from he.val 4 54 (by kernel_rfl) rfl rfl) (show ac.eval (.tmp 58) = .bool true from he.val 8 58 (by kernel_rfl) rfl rfl))
  · intro ac W he hA; refine ⟨rfl, ?_⟩; have e6 := (he.keep (.tmp 6) (by kernel_rfl)); have e50 := (show ac.eval (.tmp 50) = .agg (rfV D l'.length c2 bad') from he.val 0 50 (by kernel_rfl) rfl rfl); obtain ⟨W', hst, hrow', hg'⟩ := storeRf (A' := D) (n' := l'.length) (c' := c2) (bad' := bad') (k64.later hA); exact op_storeK rfl e6 e50 hst ⟨_, rfl, W, W', hA, hg', Later.refl _, hrow', (k84.later hA).grown hg' (fun e => hne8 (Option.some.inj e))⟩
  · intro xs W y hB hx hk hg
    refine last_assign (vx := .bool true) rfl ((hg 9 59 (by decide) (by kernel_rfl)).trans (hx 9 (by decide))) ?_
    clear hx hk hg
    obtain ⟨X, W', h1, h2, h3, h4, h5⟩ := hB
    have hf := HS.out X h1 W' h2
    have k6W := h4
    clear h1 h2 h4 h5 k84 k64 hw4
    simp only [initL, lastL, putL, Nat.reduceAdd, Act.put, List.setIfInBounds_toArray, List.set_cons_succ, List.set_cons_zero]
    go_wp2_with fail
    exact bodyPost_ret (results_ask rfl rfl rfl k6W Try.underlying34 rfl infoRf) rfl (HΦ.out _ _ ⟨hf.1.trans ((Same.of_below h3).mono fun k h => Nat.lt_of_lt_of_le h.1 hf.1.size), hf.2.later h3, _, rfl, D, c2, rfl, hcc, hcm2, hD⟩)
end Go.Proofs.Ytmipaacobioakaa
