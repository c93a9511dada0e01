/- money: a row of fees; what each on a route is sent. -/
import Derived.Test.YtcfhhljjknmniaaDoorMm6
import Derived.Deep.DeepCutAuto
set_option linter.unusedVariables false
set_option linter.unusedSimpArgs false
namespace Go.Proofs.YtcfhhljjknmniaaDoor
open Go.RowKit
abbrev Fee1 := Int × Int
def feesC : List Fee1 → List Value
  | [] => []
  | f :: fs => numV f.1 :: numV f.2 :: feesC fs
theorem feesC_len : ∀ fs : List Fee1, (feesC fs).length = fs.length * 2
  | [] => rfl
  | f :: fs => by
    have := feesC_len fs
    simp only [feesC, List.length_cons, this]
    omega
theorem feesC_at : ∀ (fs : List Fee1) (k : Nat) (h : k < fs.length), (feesC fs)[k * 2]? = some (numV fs[k].1) ∧ (feesC fs)[k * 2 + 1]? = some (numV fs[k].2)
  | f :: fs, 0, _ => ⟨rfl, rfl⟩
  | f :: fs, k + 1, h => by
    have ih := feesC_at fs k (by simpa using h)
    have e1 : (k + 1) * 2 = k * 2 + 1 + 1 := by omega
    have e2 : (k + 1) * 2 + 1 = k * 2 + 1 + 1 + 1 := by omega
    rw [e2, e1]
    exact ih
theorem fees_at {w : World} {A : Option Addr} {fs : List Fee1} (h : RdV w A (feesC fs)) {k : Nat} (hk : k < fs.length) : ∃ b o, A = some ⟨b, o, none⟩ ∧ w.cell? ⟨b, o + k * 2, none⟩ = some (numV fs[k].1) ∧ w.cell? ⟨b, o + k * 2 + 1, none⟩ = some (numV fs[k].2) := by
  have hl := feesC_len fs
  obtain ⟨b, o, e, hc⟩ := h (by intro e; rw [e] at hl; simp at hl; omega)
  obtain ⟨h1, h2⟩ := feesC_at fs k hk
  refine ⟨b, o, e, ?_, ?_⟩
  · rw [hc (k * 2) (by omega), ← List.getElem?_eq_getElem, h1]
  · rw [Nat.add_assoc, hc (k * 2 + 1) (by omega), ← List.getElem?_eq_getElem, h2]
theorem infoFee : (Tryd.prog.info? 53).map (·.size) = some 2 := by kernel_rfl
theorem run_load_fee {w : World} {b o : Nat} {x y : Int} (h0 : w.cell? ⟨b, o, none⟩ = some (numV x)) (h1 : w.cell? ⟨b, o + 1, none⟩ = some (numV y)) : (Instr.loadAt 53 (.pointer (some ⟨b, o, none⟩))).run Tryd.prog w = .ok (feeV x y) w :=
  run_loadAt_mid (P := Tryd.prog) w b o 53 [numV x, numV y] _ (fun j v e => by
    match j, e with
    | 0, e => cases e; exact h0
    | 1, e => cases e; exact h1) Tryd.underlying53 rfl infoFee
def rightF (f : Fee1) : Bool := amts [f.1] && okRate f.2
set_option maxRecDepth 100000 in
theorem route1_any (f : Fee1) (w : World) :
    Calls Tryd.prog 45 #[feeV f.1 f.2] w fun e w' => e = .returned (.bool (!rightF f)) ∧ Later w w' := by
  refine Calls.post fun Φ HΦ => ?_
  have hL0 := (Later.refl w).alloc (.cells #[.int .i64 f.1, .int .i64 f.2] 53)
  have hr := fun W => right_any f.1 f.2 W
  obtain ⟨b, r⟩ := f
  unfold rightF at HΦ
  cases hb : amts [b] && okRate r with
  | false =>
    simp only [hb] at hr HΦ
    go_enter Tryd.func45, Tryd.ntmps45
    go_wp2_with (first
      | (go_at_call 43; refine (hr _).mono ?_; clear hr; rintro e w1 ⟨rfl, hL1⟩)
      | fail)
    exact HΦ.out _ _ ⟨rfl, hL0.step hL1⟩
  | true =>
    simp only [hb] at hr HΦ
    go_enter Tryd.func45, Tryd.ntmps45
    go_wp2_with (first
      | (go_at_call 43; refine (hr _).mono ?_; clear hr; rintro e w1 ⟨rfl, hL1⟩)
      | fail)
    exact HΦ.out _ _ ⟨rfl, hL0.step hL1⟩
set_option maxRecDepth 100000 in
theorem idxFee_any (A : Option Addr) (n c : Nat) (fs : List Fee1) (w : World) (hn : fs.length = n) (hm : n ≤ 9223372036854775807) (hr : RdV w A (feesC fs)) :
    Calls Tryd.prog 66 #[.slice A n c, .func (.func 45) #[] #[]] w fun e w' => (∃ k : Int, e = .returned (.int .i64 k) ∧ decide (0 ≤ k) = fs.any (fun f => !rightF f)) ∧ Later w w' := by
  refine Calls.post fun Φ HΦ => ?_
  have HN := Lib.hid hn
  clear hn
  go_enter Tryd.func66, Tryd.ntmps66
  go_wp2_with fail
  go_loopw [8] (fun t wr => ∃ k : Nat, k ≤ n ∧ t = .int .i64 k ∧ Later w wr ∧ (fs.take k).any (fun f => !rightF f) = false) (fun t _ => n - (intOf t).toNat)
  case atStart => exact ⟨0, by omega, rfl, Later.refl _, by simp⟩
  case round =>
    obtain ⟨k, hk, rfl, hL, hany⟩ := hrel
    by_cases hlt : k < n
    · have hd : decide ((k : Int) < (n : Int)) = true := decide_eq_true (by omega)
      have hd' : decide (k < n) = true := decide_eq_true hlt
      have hkl : k < fs.length := by rw [HN.out]; exact hlt
      obtain ⟨b, o, rfl, hc0, hc1⟩ := fees_at (hr.later hL) hkl
      obtain ⟨f, hf⟩ : ∃ f, fs[k] = f := ⟨_, rfl⟩
      have htk := take_any (p := fun f => !rightF f) hkl
      rw [hany, hf, Bool.false_or] at htk
      rw [hf] at hc0 hc1
      have hld := run_load_fee hc0 hc1
      have hcl := fun W => route1_any f W
      cases hb : rightF f with
      | false =>
        simp only [hb] at htk hcl
        have hyes := any_take htk
        clear hany htk hf
        go_wp2_with (first
          | (go_at_call 45; refine (hcl _).mono ?_; rintro e w' ⟨rfl, hL1⟩)
          | fail)
        exact HΦ.out _ _ ⟨⟨k, rfl, by rw [hyes]; exact decide_eq_true (by omega)⟩, hL.step hL1⟩
      | true =>
        simp only [hb] at htk hcl
        clear hany hf
        go_wp2_with (first
          | (go_at_call 45; refine (hcl _).mono ?_; rintro e w' ⟨rfl, hL1⟩)
          | fail)
        go_roundw
        case rel => exact ⟨k + 1, by omega, by go_num, hL.step hL1, htk⟩
        case measure => simp [intOf]; omega
    · obtain rfl : k = n := by omega
      have hd : decide ((k : Int) < (k : Int)) = false := decide_eq_false (by omega)
      have hd' : decide (k < k) = false := decide_eq_false (by omega)
      rw [List.take_of_length_le (by rw [HN.out]; exact Nat.le_refl _)] at hany
      go_wp2_with fail
      exact HΦ.out _ _ ⟨⟨-1, rfl, by rw [hany]; rfl⟩, hL⟩
theorem containsFee_any (A : Option Addr) (n c : Nat) (fs : List Fee1) (w : World) (hn : fs.length = n) (hm : n ≤ 9223372036854775807) (hr : RdV w A (feesC fs)) :
    Calls Tryd.prog 44 #[.slice A n c, .func (.func 45) #[] #[]] w fun e w' => e = .returned (.bool (fs.any (fun f => !rightF f))) ∧ Later w w' := by
  have hi := idxFee_any A n c fs w hn hm hr
  go_enter Tryd.func44, Tryd.ntmps44
  go_wp2_with (first
    | (go_at_call 66; refine hi.mono ?_; clear hi; rintro e w' ⟨⟨k, rfl, hk⟩, hL⟩)
    | fail)
  go_ret
  exact ⟨by rw [← hk]; rfl, hL⟩
def routeFrom (a : Int) : List Fee1 → List Int × Int
  | [] => ([a], 0)
  | f :: fs => if (routeFrom a fs).2 = 0 then (if (sendS f.1 f.2 ((routeFrom a fs).1.headD 0)).2 = 0 then ((sendS f.1 f.2 ((routeFrom a fs).1.headD 0)).1 :: (routeFrom a fs).1, 0) else ([], (sendS f.1 f.2 ((routeFrom a fs).1.headD 0)).2)) else ([], (routeFrom a fs).2)
def routeS (a : Int) (fs : List Fee1) : List Int × Int := if amts [a] && !fs.any (fun f => !rightF f) then routeFrom a fs else ([], 2)
theorem routeFrom_err {a e : Int} (he : e ≠ 0) : ∀ (fs : List Fee1) (j : Nat), j ≤ fs.length → routeFrom a (fs.drop j) = ([], e) → routeFrom a fs = ([], e)
  | _, 0, _, h => h
  | [], j + 1, h, _ => absurd h (by simp)
  | f :: fs, j + 1, h, hr => by
    have := routeFrom_err he fs j (by simpa using h) hr
    simp [routeFrom, this, he]
theorem routeFrom_cons {a : Int} {fs : List Fee1} {i : Nat} (hi : i < fs.length) {x y : Int} {l : List Int} (h : routeFrom a (fs.drop (i + 1)) = (x :: l, 0)) (hs : sendS fs[i].1 fs[i].2 x = (y, 0)) : routeFrom a (fs.drop i) = (y :: x :: l, 0) := by
  rw [List.drop_eq_getElem_cons hi, routeFrom]
  simp [h, hs]
theorem routeFrom_bad {a : Int} {fs : List Fee1} {i : Nat} (hi : i < fs.length) {x z e : Int} {l : List Int} (h : routeFrom a (fs.drop (i + 1)) = (x :: l, 0)) (hs : sendS fs[i].1 fs[i].2 x = (z, e)) (he : e ≠ 0) : routeFrom a fs = ([], e) := by
  refine routeFrom_err he fs i (by omega) ?_
  rw [List.drop_eq_getElem_cons hi, routeFrom]
  simp [h, hs, he]
set_option maxRecDepth 100000 in
theorem run_make_ints (n : Nat) (hn : n ≤ 1000000) (w : World) :
    (Instr.makeSlice 22 (.int .i64 (n : Int)) (.int .i64 (n : Int))).run Tryd.prog w = .ok (.slice (some ⟨w.heap.size, 0, none⟩) n n) (w.alloc (.cells ((List.replicate n (0 : Int)).map numV).toArray 2)) := by
  obtain ⟨i, hi0, he⟩ := Option.map_eq_some_iff.1 infoZ
  injection he with hz he
  injection he with hs hb
  have h := run_make (P := Tryd.prog) w 22 2 i _ Tryd.underlying22 hi0 hz .i64 .i64 (n : Int) (n : Int) (by omega) (Int.le_refl _) (by rw [hb]; omega) (by omega)
  rw [h, Int.toNat_natCast, hs]
  congr 3
  apply Array.ext
  · simp [madeCells]
  · intro j h1 h2
    simp [madeCells, Value.cells, Nat.mod_one]
theorem set_last {i : Nat} (y : Int) (l : List Int) : ((((List.replicate (i + 1) (0 : Int)) ++ l).map numV).toArray).setIfInBounds i (numV y) = (((List.replicate i (0 : Int)) ++ y :: l).map numV).toArray := by
  rw [List.setIfInBounds_toArray, List.map_append, List.map_append, List.set_append, List.map_replicate, List.map_replicate]
  rw [if_pos (by simp), List.replicate_succ']
  rw [List.set_append, List.length_replicate, if_neg (by omega), Nat.sub_self]
  simp
theorem idxFee {b o n c i : Nat} (h : i < n) (hn : n ≤ 1000) (W : World) : (Instr.indexAt 79 (.slice (some ⟨b, o, none⟩) n c) (.int .i64 (i : Int))).run Tryd.prog W = .ok (.pointer (some ⟨b, o + i * 2, none⟩)) W := by
  have hd : decide ((i : Int) < (n : Int)) = true := decide_eq_true (by omega)
  have hd' : decide (i < n) = true := decide_eq_true h
  go_simp
theorem idxInt {b o n c i : Nat} (h : i < n) (hn : n ≤ 1001) (W : World) : (Instr.indexAt 22 (.slice (some ⟨b, o, none⟩) n c) (.int .i64 (i : Int))).run Tryd.prog W = .ok (.pointer (some ⟨b, o + i, none⟩)) W := by
  have hd : decide ((i : Int) < (n : Int)) = true := decide_eq_true (by omega)
  have hd' : decide (i < n) = true := decide_eq_true h
  go_simp
theorem loadInt {b o : Nat} {z : Int} {W : World} (hc : W.cell? ⟨b, o, none⟩ = some (numV z)) : (Instr.loadAt 2 (.pointer (some ⟨b, o, none⟩))).run Tryd.prog W = .ok (numV z) W := by
  go_simp
theorem addInt (i : Nat) (h : i ≤ 1000) (T : TypeId) (W : World) : (binOp .add T (.int .i64 (i : Int)) (.int .i64 1)).run Tryd.prog W = .ok (.int .i64 ((i + 1 : Nat) : Int)) W := by
  go_simp
  first | exact IntWalk.i64_in _ (by omega) | (congr 1; exact IntWalk.i64_in _ (by omega))
set_option maxRecDepth 100000 in
theorem route_any (a : Int) (A : Option Addr) (n c : Nat) (fs : List Fee1) (w : World) (hn : fs.length = n) (hm : n ≤ 1000) (hr : RdV w A (feesC fs)) :
    Calls Tryd.prog 30 #[.int .i64 a, .slice A n c] w fun e w' => (∃ v, e = .returned (.tuple #[v, .int .i64 (routeS a fs).2]) ∧ ∃ B c', v = .slice B (routeS a fs).1.length c' ∧ RdV w' B ((routeS a fs).1.map numV)) ∧ Below w.heap.size w w' := by
  refine Calls.post fun Φ HΦ => ?_
  have HN := Lib.hid hn
  have hL0 := (Later.refl w).alloc (.cells #[.int .i64 a] 2)
  have hck := check_any (some ⟨w.heap.size, 0, none⟩) 1 1 [a] _ rfl (by omega) (rd1Z a w)
  have hcf := fun W (h : Later w W) => containsFee_any A n c fs W hn (by omega) (hr.later h)
  clear hn
  cases ha : amts [a] with
  | false =>
    rw [ha] at hck
    have hS : routeS a fs = ([], 2) := by unfold routeS; rw [ha]; rfl
    rw [hS] at HΦ
    clear hcf
    go_enter Tryd.func30, Tryd.ntmps30
    go_wp2_with (first
      | (refine wpList_buildSl rfl 22 1 _ rfl #[(0, .int .i64 _)] rfl (build1Z _ _) ?_)
      | (go_at_call 16; refine hck.mono ?_; clear hck; rintro e w1 ⟨rfl, hL1⟩)
      | fail)
    exact HΦ.out _ _ ⟨⟨_, rfl, none, 0, rfl, RdV.nil _ _⟩, hL0.step hL1⟩
  | true =>
    rw [ha] at hck
    cases hb : fs.any (fun f => !rightF f) with
    | true =>
      rw [hb] at hcf
      have hS : routeS a fs = ([], 2) := by unfold routeS; rw [ha, hb]; rfl
      rw [hS] at HΦ
      go_enter Tryd.func30, Tryd.ntmps30
      go_wp2_with (first
        | (refine wpList_buildSl rfl 22 1 _ rfl #[(0, .int .i64 _)] rfl (build1Z _ _) ?_)
        | (go_at_call 16; refine hck.mono ?_; clear hck; rintro e w1 ⟨rfl, hL1⟩)
        | (go_at_call 44; refine (hcf _ (hL0.step hL1)).mono ?_; rintro e w2 ⟨rfl, hL2⟩)
        | fail)
      exact HΦ.out _ _ ⟨⟨_, rfl, none, 0, rfl, RdV.nil _ _⟩, (hL0.step hL1).step hL2⟩
    | false =>
      rw [hb] at hcf
      have hS : routeS a fs = routeFrom a fs := by unfold routeS; rw [ha, hb]; rfl
      rw [hS] at HΦ
      have hmk := run_make_ints (n + 1) (by omega)
      rw [show (((n + 1 : Nat)) : Int) = (n : Int) + 1 by omega] at hmk
      have hbn : n ≤ 1000 := hm
      clear hS hb ha
      go_enter Tryd.func30, Tryd.ntmps30
      go_upto_region 4 with (first
        | (refine wpList_buildSl rfl 22 1 _ rfl #[(0, .int .i64 _)] rfl (build1Z _ _) ?_)
        | (go_at_call 16; refine hck.mono ?_; clear hck; rintro e w1 ⟨rfl, hL1⟩)
        | (go_at_call 44; refine (hcf _ (hL0.step hL1)).mono ?_; clear hcf; rintro e w2 ⟨rfl, hL2⟩)
        | fail)
      have hL3 := (hL0.step hL1).step hL2
      clear hL0 hL1 hL2 hmk
      have hrow := Row.new w2 2 ((List.replicate (n + 1) (0 : Int)).map numV).toArray
      have hcn := (hrow.cell n).trans (show _ = some (numV 0) by simp)
      have e4 := set_last (i := n) a []
      rw [List.append_nil] at e4
      have e5 : (Array.replicate (n + 1) (numV 0)).setIfInBounds n (.int .i64 a) = ((List.replicate n (0 : Int) ++ a :: []).map numV).toArray := by
        rw [← e4]
        simp
      clear hrow e4
      go_upto_region 5 with fail
      rw [show (List.replicate n (numV 0) ++ [numV a]).toArray = ((List.replicate n (0 : Int) ++ a :: []).map numV).toArray by simp]
      have hrow4 := Row.new w2 2 ((List.replicate n (0 : Int) ++ a :: []).map numV).toArray
      have hL4 := hL3.alloc (.cells ((List.replicate n (0 : Int) ++ a :: []).map numV).toArray 2)
      have hg0 := hL3.size
      obtain ⟨g, hg⟩ : ∃ g, w2.heap.size = g := ⟨_, rfl⟩
      rw [hg] at hrow4 hg0 ⊢
      clear hL3 hcn e5 hg
      generalize w2.alloc (.cells ((List.replicate n (0 : Int) ++ a :: []).map numV).toArray 2) = w3 at *
      have HG0 := Lib.hid hg0
      clear hg0
      go_wp2_with fail
      go_loopw [30] (fun t wr => ∃ (k i : Nat) (x : Int) (l : List Int), i + k = n ∧ t = .int .i64 k ∧ Later w wr ∧ routeFrom a (fs.drop i) = (x :: l, 0) ∧ l.length = k ∧ Row wr g 2 ((List.replicate i (0 : Int) ++ x :: l).map numV).toArray) (fun t _ => n - (intOf t).toNat)
      case atStart => exact ⟨0, n, a, [], by omega, rfl, hL4, by rw [List.drop_of_length_le (by rw [HN.out]; exact Nat.le_refl _)]; rfl, rfl, hrow4⟩
      case round =>
        clear hrow4 hL4
        obtain ⟨k, j, x, l, hjk, rfl, hL, hrf, hll, hrow⟩ := hrel
        by_cases hlt : k < n
        · obtain ⟨i, rfl⟩ : ∃ i, j = i + 1 := ⟨j - 1, by omega⟩
          have hd : decide ((k : Int) < (n : Int)) = true := decide_eq_true (by omega)
          have hd' : decide (k < n) = true := decide_eq_true hlt
          have hi1 : (n : Int) - 1 - (k : Int) = (i : Int) := by omega
          have hin : i < n := by omega
          have hkl : i < fs.length := by rw [HN.out]; exact hin
          obtain ⟨b, o, rfl, hc0, hc1⟩ := fees_at (hr.later hL) hkl
          obtain ⟨f, hf⟩ : ∃ f, fs[i] = f := ⟨_, rfl⟩
          rw [hf] at hc0 hc1
          have hcx : wr.cell? ⟨g, i + 1, none⟩ = some (numV x) := (hrow.cell (i + 1)).trans (by simp)
          have hci : wr.cell? ⟨g, i, none⟩ = some (numV 0) := (hrow.cell i).trans (by rw [List.getElem?_toArray, List.getElem?_map, List.getElem?_append_left (by simp)]; simp)
          have HRF := Lib.hid hrf
          have HLL := Lib.hid hll
          have HJK := Lib.hid hjk
          clear hrf hll hjk
          go_upto_region 9 with fail
          obtain ⟨s, hs⟩ : ∃ s, sendS f.1 f.2 x = s := ⟨_, rfl⟩
          obtain ⟨y, e⟩ := s
          have hsd := fun W => send_fee f.1 f.2 x W
          simp only [hs] at hsd
          have HS := Lib.hid hs
          clear hs
          refine wp_region_list [Pr.eq (.slice (some ⟨b, o, none⟩) n c), Pr.eq (.int .i64 (i : Int)), Pr.eq (.pointer (some ⟨b, o + i * 2, none⟩)), Pr.eq (feeV f.1 f.2), Pr.eq (.slice (some ⟨g, 0, none⟩) (n + 1) (n + 1)), Pr.eq (.int .i64 (i : Int)), Pr.eq (.int .i64 ((i + 1 : Nat) : Int)), Pr.eq (.pointer (some ⟨g, 0 + (i + 1), none⟩)), Pr.eq (numV x), Pr.eq (.tuple #[.int .i64 y, .int .i64 e]), Pr.eq (.tuple #[.int .i64 y, .int .i64 e]), Pr.eq (.int .i64 y), Pr.eq (.int .i64 e), Pr.eq (.int .i64 y), Pr.eq (.int .i64 e)] (by kernel_rfl) (by kernel_rfl) (by kernel_rfl) (by kernel_rfl) ⟨?_, ?_, ?_, ?_, ?_, ?_, ?_, ?_, ?_, ?_, ?_, ?_, ?_, ?_, ?_, trivial⟩ ?_
          · exact fun ac W hL he => stepOk_want rfl (op_move rfl (he.keep (.tmp 1) (by kernel_rfl)))
          · exact fun ac W hL he => stepOk_want rfl (op_move rfl (he.keep (.tmp 8) (by kernel_rfl)))
          · exact fun ac W hL he => stepOk_want rfl (op_idx rfl (he.get 0 39 (by kernel_rfl) rfl) (he.get 1 40 (by kernel_rfl) rfl) (idxFee hin hbn W) rfl)
          · exact fun ac W hL he => stepOk_want rfl (op_load rfl (he.get 2 41 (by kernel_rfl) rfl) (run_load_fee (cell_later hc0 hL) (cell_later hc1 hL)) rfl)
          · exact fun ac W hL he => stepOk_want rfl (op_move rfl (he.keep (.tmp 6) (by kernel_rfl)))
          · exact fun ac W hL he => stepOk_want rfl (op_move rfl (he.keep (.tmp 8) (by kernel_rfl)))
          · exact fun ac W hL he => stepOk_want rfl (op_binOp rfl (he.get 5 44 (by kernel_rfl) rfl) rfl rfl (addInt i (by omega) _ W) rfl)
          · exact fun ac W hL he => stepOk_want rfl (op_idx rfl (he.get 4 43 (by kernel_rfl) rfl) (he.get 6 45 (by kernel_rfl) rfl) (idxInt (by omega) (by omega) W) rfl)
          · exact fun ac W hL he => stepOk_want rfl (op_load rfl (he.get 7 46 (by kernel_rfl) rfl) (loadInt (by rw [Nat.zero_add]; exact cell_later hcx hL)) rfl)
          · intro ac W hL he; refine stepOk_want rfl ?_; have e0 : ac.eval (.tmp 42) = feeV f.1 f.2 := (he.get 3 42 (by kernel_rfl) rfl); have e1 : ac.eval (.tmp 47) = numV x := (he.get 8 47 (by kernel_rfl) rfl); exact op_callF (vs := #[feeV f.1 f.2, numV x]) rfl (by simp only [List.map_toArray, List.map_cons, List.map_nil, e0, e1]) (enters_of Tryd.func29 (by kernel_rfl) rfl) ((hsd W).mono fun e W' ⟨he', hb⟩ => ⟨_, he', hb, rfl⟩)
          · exact fun ac W hL he => stepOk_want rfl (op_move rfl (he.get 9 48 (by kernel_rfl) rfl))
          · exact fun ac W hL he => stepOk_want rfl (op_extract rfl (he.get 10 38 (by kernel_rfl) rfl) rfl rfl)
          · exact fun ac W hL he => stepOk_want rfl (op_extract rfl (he.get 10 38 (by kernel_rfl) rfl) rfl rfl)
          · exact fun ac W hL he => stepOk_want rfl (op_assign rfl (he.get 11 49 (by kernel_rfl) rfl))
          · exact fun ac W hL he => stepOk_want rfl (op_assign rfl (he.get 12 50 (by kernel_rfl) rfl))
          intro xs W hLW hxs
          have h9 : xs 13 = .int .i64 y := hxs 13 (by decide)
          have h10 : xs 14 = .int .i64 e := hxs 14 (by decide)
          clear hxs
          simp only [putL, Nat.reduceAdd, Act.put, List.setIfInBounds_toArray, List.set_cons_succ, List.set_cons_zero, h9, h10]
          clear h9 h10
          have hLW' := hL.step hLW
          have hrowW := hrow.later hLW
          have hci' := cell_later hci hLW
          have hfz := hrowW.frozen i
          have HFF := Lib.hid hf
          clear hsd hc0 hc1 hcx hci hrow hL hLW hf
          by_cases he : e = 0
          · subst he
            go_wp2_with fail
            go_roundw
            case rel =>
              refine ⟨k + 1, i, y, x :: l, by have := HJK.out; omega, by go_num, ?_, ?_, by have := HLL.out; simp; omega, ?_⟩
              · exact Below.setCell hLW' (by exact HG0.out) _
              · have hfk := HRF.out
                have hff := HFF.out
                subst hff
                exact routeFrom_cons hkl hfk HS.out
              · have := hrowW.set i (numV y)
                rwa [set_last] at this
            case measure => simp [intOf]; omega
          · have e1 : (e != 0) = true := by simpa using he
            go_wp2_with fail
            have hR : routeFrom a fs = ([], e) := by
              have hff := HFF.out
              subst hff
              exact routeFrom_bad hkl HRF.out HS.out he
            rw [hR] at HΦ
            exact HΦ.out _ _ ⟨⟨_, rfl, none, 0, rfl, RdV.nil _ _⟩, hLW'⟩
        · obtain rfl : k = n := by omega
          obtain rfl : j = 0 := by omega
          have hd : decide ((k : Int) < (k : Int)) = false := decide_eq_false (by omega)
          have hd' : decide (k < k) = false := decide_eq_false (by omega)
          rw [List.drop_zero] at hrf
          rw [hrf] at HΦ
          have hrd : RdV wr (some ⟨g, 0, none⟩) ((x :: l).map numV) := RdV.row hrow
          have HLL := Lib.hid hll
          clear hrf hrow hll
          go_wp2_with fail
          exact HΦ.out _ _ ⟨⟨_, rfl, some ⟨g, 0, none⟩, k + 1, by rw [List.length_cons, HLL.out], hrd⟩, hL⟩
end Go.Proofs.YtcfhhljjknmniaaDoor
