/- money: Parts: the statement's walk. -/
import Derived.Test.YtcfhhljjknmniaaDoorMp3
set_option linter.unusedVariables false
set_option linter.unusedSimpArgs false
namespace Go.Proofs.YtcfhhljjknmniaaDoor
open Go.RowKit
attribute [local go_sem] Oper.semAt_some
theorem Row.upto {w w' : World} {g M : Nat} {t : TypeId} {cs : Array Value} (h : Row w g t cs) (hb : Below M w w') (hg : g < M) : Row w' g t cs := (hb.block g hg).trans h
/-- What lies below M: how many are left, the result's cell, the document's row of parts, the iterator's own cells. -/
structure PF (w : World) (M q q7 ga gm : Nat) (left a m : Int) (B : Option Addr) (K c7 : Nat) (X : World) : Prop where
  size : M ≤ X.heap.size
  k5 : Row X q 3 #[.int .i64 left]
  k6 : Row X (q + 1) 4 #[.bool false]
  k7 : Row X q7 22 #[.slice B K c7]
  ka : Row X ga 2 #[.int .i64 a]
  km : Row X gm 3 #[.int .i64 m]
  rd : RdV X B ((partsL a m).map numV)
  lat : Later w X
  hq : q + 1 < M
  h7 : q7 < M
  hga : ga < M
  hgm : gm < M
  hB : ∀ b o, B = some ⟨b, o, none⟩ → (partsL a m).map numV ≠ [] → b < M
  h1 : w.heap.size ≤ M
theorem PF.below {w : World} {M q q7 ga gm : Nat} {left a m : Int} {B : Option Addr} {K c7 : Nat} {X Y : World} (h : PF w M q q7 ga gm left a m B K c7 X) (hb : Below M X Y) : PF w M q q7 ga gm left a m B K c7 Y :=
  { size := Nat.le_trans h.size hb.size
    k5 := h.k5.upto hb (by have := h.hq; omega)
    k6 := h.k6.upto hb h.hq
    k7 := h.k7.upto hb h.h7
    ka := h.ka.upto hb h.hga
    km := h.km.upto hb h.hgm
    rd := h.rd.keep fun b ⟨o, e⟩ hne _ => hb.block b (h.hB b o e hne)
    lat := h.lat.trans (hb.mono h.h1)
    hq := h.hq
    h7 := h.h7
    hga := h.hga
    hgm := h.hgm
    hB := h.hB
    h1 := h.h1 }
theorem leaveX2 {q D D' : Nat} {w X W : World} (hK : X.heap[D]? = some (.deferred (some []))) (hK' : X.heap[D']? = some (.deferred (some []))) (hb : Below w.heap.size w X) (k6 : Row W (q + 1) 4 #[.bool false]) (hL : Later X W) (hqD : q + 1 < D) (hqD' : q + 1 < D') (hq : w.heap.size ≤ q) :
    (W.setCell ⟨q + 1, 0, none⟩ (.bool true)).heap[D]? = some (.deferred (some [])) ∧ (W.setCell ⟨q + 1, 0, none⟩ (.bool true)).heap[D']? = some (.deferred (some [])) ∧
      (((W.setCell ⟨q + 1, 0, none⟩ (.bool true)).putObj D (.deferred none)).putObj D' (.deferred none)).cell? ⟨q + 1, 0, none⟩ = some (.bool true) ∧
      Below w.heap.size w (((W.setCell ⟨q + 1, 0, none⟩ (.bool true)).putObj D (.deferred none)).putObj D' (.deferred none)) := by
  have hs := hb.size
  have hs2 := hL.size
  have hB : Below w.heap.size w (W.setCell ⟨q + 1, 0, none⟩ (.bool true)) := (hb.trans (hL.mono hs)).setCell (p := ⟨q + 1, 0, none⟩) (by show w.heap.size ≤ q + 1; omega) _
  have key : ∀ E, q + 1 < E → X.heap[E]? = some (.deferred (some [])) → (W.setCell ⟨q + 1, 0, none⟩ (.bool true)).heap[E]? = some (.deferred (some [])) := fun E hE hKE =>
    (Below.heap_setCell W ⟨q + 1, 0, none⟩ _ E (by show E ≠ q + 1; omega)).trans ((Below.block hL E (Array.getElem?_eq_some_iff.1 hKE).1).trans hKE)
  have hB2 := hB.trans (below_put w.heap.size (W.setCell ⟨q + 1, 0, none⟩ (.bool true)) D (.deferred none) (by omega) hB.size)
  refine ⟨key D hqD hK, key D' hqD' hK', ?_, hB2.trans (below_put _ _ _ _ (by omega) hB2.size)⟩
  refine (World.cell?_of_block (w := (W.setCell ⟨q + 1, 0, none⟩ (.bool true)).putObj D (.deferred none)) (a := ⟨q + 1, 0, none⟩) (World.putObj_heap_other (by show q + 1 ≠ D'; omega))).trans ?_
  exact (World.cell?_of_block (w := W.setCell ⟨q + 1, 0, none⟩ (.bool true)) (a := ⟨q + 1, 0, none⟩) (World.putObj_heap_other (by show q + 1 ≠ D; omega))).trans (((k6.set 0 (.bool true)).cell 0).trans rfl)
theorem leaveM2 {F : Fence} {n : Nat} {P : Program} {fn : Func} {R : Ending → World → Prop} {T : Array Value} {D D' : Nat} {w : World} {v : Value} (hne : D' ≠ D) (hD : w.heap[D]? = some (.deferred (some []))) (hD' : w.heap[D']? = some (.deferred (some [])))
    (h : (results fn T).run P ((w.putObj D (.deferred none)).putObj D' (.deferred none)) = .ok v ((w.putObj D (.deferred none)).putObj D' (.deferred none))) (hR : R (.returned v) ((w.putObj D (.deferred none)).putObj D' (.deferred none))) :
    bodyPostM F n P fn R .ret { tmps := T, defers := [{ target := .collected D, args := #[] }, { target := .collected D', args := #[] }] } w :=
  ⟨by simp, .inl ⟨_, _, rfl, run_takeDeferred hD, by simp, .inl ⟨_, _, rfl, run_takeDeferred ((World.putObj_heap_other hne).trans hD'), v, h, hR⟩⟩⟩
theorem eqlFuncNil {W : World} (fn : Fn) (a b : Array Value) : (binOp .eql 48 (.func fn a b) .nilFunc).run Tryd.prog W = .ok (.bool false) W := by
  first | kernel_rfl | rfl
theorem loadInt0 {b o : Nat} {z : Int} {W : World} (hc : W.cell? ⟨b, o, none⟩ = some (.int .i64 z)) : (Instr.loadAt 3 (.pointer (some ⟨b, o, none⟩))).run Tryd.prog W = .ok (.int .i64 z) W := by
  go_simp
theorem loadSlZ {b o m c : Nat} {S : Option Addr} {W : World} (hc : W.cell? ⟨b, o, none⟩ = some (.slice S m c)) : (Instr.loadAt 22 (.pointer (some ⟨b, o, none⟩))).run Tryd.prog W = .ok (.slice S m c) W := by
  go_simp
theorem storeInt0 {b o : Nat} {x y : Int} {W : World} (hc : W.cell? ⟨b, o, none⟩ = some (.int .i64 x)) (hf : W.frozen? ⟨b, o, none⟩ = false) : (Instr.storeAt 3 (.pointer (some ⟨b, o, none⟩)) (.int .i64 y)).run Tryd.prog W = .ok () (W.setCell ⟨b, o, none⟩ (.int .i64 y)) := by
  go_simp
theorem partsL_get {a m : Int} {k : Nat} (hk : k < cntP a m) : ∃ h : k < ((partsL a m).map numV).length, ((partsL a m).map numV)[k] = numV ((partAt a.toNat m.toNat k : Nat) : Int) := by
  refine ⟨by rw [List.length_map, partsL_len]; exact hk, ?_⟩
  unfold partsL
  simp
set_option maxRecDepth 100000 in
set_option maxHeartbeats 32000000 in
theorem moneyParts_walk (a : Int) (wa : (Lit.int .i64 a).wf = true) (m : Int) (wm : (Lit.int .i64 m).wf = true) (left : Int) (wl : (Lit.int .i64 left).wf = true) (w : World) (hT : Tabs w) :
    Calls Tryd.prog 7 #[.int .i64 a, .int .i64 m, .int .i64 left] w fun e w' => e = .returned (.bool true) ∧ Below w.heap.size w w' := by
  refine Calls.post fun Φ HΦ => ?_
  have hwk := fun W (h : Later w W) => works_yes W (hT.later h)
  have k5 := (Row.new w 3 #[.int .i64 left]).alloc (.cells #[.bool false] 4)
  have k6 := Row.new (w.alloc (.cells #[.int .i64 left] 3)) 4 #[.bool false]
  have hL1 := ((Later.refl w).alloc (.cells #[.int .i64 left] 3)).alloc (.cells #[.bool false] 4)
  simp only [World.size_alloc] at k6
  have HWK := Lib.hid hwk
  clear hT wa wm wl hwk
  refine (callsIn_wide (n := 10)).1 ?_
  refine callsIn_of_wp_marks Tryd.func7 rfl trivial ?_ rfl
  simp only [Tryd.ntmps7, List.size_toArray, List.length_cons, List.length_nil, Nat.reduceAdd, Nat.reduceSub, Array.replicate_succ, Array.replicate_zero, List.push_toArray, List.append_toArray, List.nil_append, List.cons_append]
  refine wpIn_wide.2 ?_
  go_upto_region 1 with fail
  obtain ⟨q, hq⟩ : ∃ q, q = w.heap.size := ⟨_, rfl⟩
  rw [← hq] at k5 k6 ⊢
  have HQ := Lib.hid hq
  clear hq
  generalize (w.alloc (.cells #[.int .i64 left] 3)).alloc (.cells #[.bool false] 4) = w1 at *
  have hq1 := k6.lt
  have hrp := refParts_any a m w1
  obtain ⟨K, hK⟩ : ∃ K, cntP a m = K := ⟨_, rfl⟩
  rw [hK] at hrp
  have hKb : K ≤ 1000 := by
    rw [← hK]
    unfold cntP okP
    split
    · rename_i h
      simp only [Bool.and_eq_true, decide_eq_true_eq] at h
      omega
    · omega
  go_upto_region 2 with (first
    | (go_at_call 26; refine hrp.mono ?_; clear hrp; rintro e w2 ⟨⟨B, c7, rfl, hrd⟩, hL2⟩)
    | fail)
  have k7 := Row.new w2 22 #[.slice B K c7]
  have hrd7 := hrd.later ((Later.refl w2).alloc (.cells #[.slice B K c7] 22))
  have hL3 := hL2.alloc (.cells #[.slice B K c7] 22)
  obtain ⟨q7, hq7⟩ : ∃ x, w2.heap.size = x := ⟨_, rfl⟩
  rw [hq7] at k7 ⊢
  have hq7s : q + 2 ≤ q7 := by have := hL2.size; omega
  have hsz3 : (w2.alloc (.cells #[.slice B K c7] 22)).heap.size = q7 + 1 := by rw [World.size_alloc, hq7]
  have hbl2 : ∀ b o, B = some ⟨b, o, none⟩ → (partsL a m).map numV ≠ [] → b < q7 := fun b o e hne => by
    obtain ⟨b', o', e', hc⟩ := hrd hne
    rw [e] at e'
    cases e'
    have := block_lt_of_cell (hc 0 (List.length_pos_iff.2 hne))
    rw [← hq7]
    exact this
  clear hrd hL2 hq7
  generalize w2.alloc (.cells #[.slice B K c7] 22) = w3 at *
  have hpt := parts_any a m w3
  rw [hsz3] at hpt
  go_upto_region 3 with (first
    | (go_at_call 27; refine hpt.mono ?_; clear hpt; rintro e w4 ⟨rfl, rfl⟩)
    | fail)
  have ka := (Row.new w3 2 #[.int .i64 a]).alloc (.cells #[.int .i64 m] 3)
  have km := Row.new (w3.alloc (.cells #[.int .i64 a] 2)) 3 #[.int .i64 m]
  rw [World.size_alloc] at km
  rw [hsz3] at ka km
  have hLp := ((Later.refl w3).alloc (.cells #[.int .i64 a] 2)).alloc (.cells #[.int .i64 m] 3)
  have hsz5 : ((w3.alloc (.cells #[.int .i64 a] 2)).alloc (.cells #[.int .i64 m] 3)).heap.size = q7 + 3 := by rw [World.size_alloc, World.size_alloc, hsz3]
  have hL13 : Later w1 w3 := hL3
  have pf0 : PF w (q7 + 3) q q7 (q7 + 1) (q7 + 2) left a m B K c7 ((w3.alloc (.cells #[.int .i64 a] 2)).alloc (.cells #[.int .i64 m] 3)) :=
    { size := by rw [hsz5]; exact Nat.le_refl _
      k5 := (k5.later hL13).later hLp
      k6 := (k6.later hL13).later hLp
      k7 := k7.later hLp
      ka := ka
      km := km
      rd := hrd7.later hLp
      lat := (hL1.step hL13).step hLp
      hq := by omega
      h7 := by omega
      hga := by omega
      hgm := by omega
      hB := fun b o e hne => by have := hbl2 b o e hne; omega
      h1 := by have := HQ.out; omega }
  clear k5 k6 k7 hrd7 hL3 hL13 hLp hbl2 ka km hsz3 hL1 hsz5
  generalize (w3.alloc (.cells #[.int .i64 a] 2)).alloc (.cells #[.int .i64 m] 3) = w10 at *
  go_wp2_with fail
  have k19 := Row.new w10 3 #[.int .i64 0]
  have hb11 : Below (q7 + 3) w10 (w10.alloc (.cells #[.int .i64 0] 3)) := (Below.refl _ _).alloc pf0.size _
  have tf := pf0.below hb11
  obtain ⟨q19, hq19⟩ : ∃ x, x = w10.heap.size := ⟨_, rfl⟩
  rw [← hq19] at k19 ⊢
  have hq19M : q7 + 3 ≤ q19 := by rw [hq19]; exact pf0.size
  clear hq19 hb11 pf0
  generalize w10.alloc (.cells #[.int .i64 0] 3) = w11 at *
  have HK := Lib.hid hK
  clear hK
  refine wp_loop_rounds 3 ?_
  rw [rounds_succ]
  obtain ⟨m1, hm1⟩ : ∃ m, (if 1 < left then left else 1) = m := ⟨_, rfl⟩
  obtain ⟨Z, hz⟩ : ∃ Z : Nat, (if m1 < (K : Int) then m1 else (K : Int)) = (Z : Int) := ⟨(if m1 < (K : Int) then m1 else (K : Int)).toNat, by split at hm1 <;> split <;> omega⟩
  have hzd : (K = 0 ∨ (K : Int) < left) → Z = K := by intro h; split at hm1 <;> split at hz <;> omega
  have hze : ∀ k, k + 1 ≤ K → (k = 0 ∨ (k : Int) < left) → left ≤ (k : Int) + 1 → k + 1 = Z := by intro k h1 h2 h3; split at hm1 <;> split at hz <;> omega
  have HZD := Lib.hid hzd
  have HZE := Lib.hid hze
  have HM1 := Lib.hid hm1
  have HZ := Lib.hid hz
  clear hzd hze hm1 hz
  have c19 : w11.cell? ⟨q19, 0, none⟩ = some (.int .i64 0) := (k19.cell 0).trans rfl
  have hnil := fun X => eqlFuncNil (W := X) (.func 41) #[] #[.pointer (some ⟨q7 + 1, 0, none⟩), .pointer (some ⟨q7 + 2, 0, none⟩)]
  have hq19l := k19.lt
  go_wp2_with fail
  have k20 := Row.new w11 3 #[.int .i64 0]
  have hbA : Below (q7 + 3) w11 (w11.alloc (.cells #[.int .i64 0] 3)) := (Below.refl _ _).alloc tf.size _
  have tfA := tf.below hbA
  have k19A := k19.alloc (.cells #[.int .i64 0] 3)
  have hszA : (w11.alloc (.cells #[.int .i64 0] 3)).heap.size = w11.heap.size + 1 := by simp
  obtain ⟨q20, hq20⟩ : ∃ x, x = w11.heap.size := ⟨_, rfl⟩
  rw [← hq20] at k20 hszA hq19l ⊢
  generalize w11.alloc (.cells #[.int .i64 0] 3) = WA at *
  have hlt20 := k20.lt
  clear tf k19 hbA hq20 c19 hnil
  have hseq := parts1_all a m (q7 + 1) (q7 + 2) WA 9 (by omega) (fun b => b = q20 ∨ b = WA.heap.size + 1) (by rintro b (h | h) <;> omega) (by have := tfA.hga; rintro (h | h) <;> omega) (by have := tfA.hgm; rintro (h | h) <;> omega) tfA.ka tfA.km
  have HS := Lib.hid hseq
  have HSZ := Lib.hid hszA
  clear hseq hszA
  refine name_frame fun T0 hT0 => ?_
  rename_i K0 hK0
  have hrest : ∀ (D : Nat) (X : World), WA.heap.size ≤ D → X.heap[D]? = some (.deferred (some [])) → Row X q20 3 #[.int .i64 (Z : Int)] → Same (fun k => k < WA.heap.size ∧ k ≠ q20) WA X → K0 { tmps := T0, defers := { target := .collected D, args := #[] } :: [] } X := by
    intro D1 X1 hD1 hKD1 kn hs
    refine hK0 _ _ ?_
    rw [hT0]
    clear hT0 HS hK0
    have hbX : Below (q7 + 3) WA X1 := Same.below (hs.mono fun k (hk : k < q7 + 3) => ⟨by have := tfA.size; omega, by omega⟩)
    have tfX := tfA.below hbX
    have k19X := k19A.same hs ⟨by omega, by omega⟩
    have c19 : X1.cell? ⟨q19, 0, none⟩ = some (.int .i64 0) := (k19X.cell 0).trans rfl
    have c20 : X1.cell? ⟨q20, 0, none⟩ = some (.int .i64 (Z : Int)) := (kn.cell 0).trans rfl
    have c7' : X1.cell? ⟨q7, 0, none⟩ = some (.slice B K c7) := (tfX.k7.cell 0).trans rfl
    have c5 : X1.cell? ⟨q, 0, none⟩ = some (.int .i64 left) := (tfX.k5.cell 0).trans rfl
    have hm1 := HM1.out
    have hz := HZ.out
    go_wp2_with fail
    clear hm1 hz
    clear c19 c20 c7' c5
    have k19 := Row.new X1 3 #[.int .i64 1]
    have hbB : Below (q7 + 3) X1 (X1.alloc (.cells #[.int .i64 1] 3)) := (Below.refl _ _).alloc tfX.size _
    have tf := tfX.below hbB
    have hKD1 : (X1.alloc (.cells #[.int .i64 1] 3)).heap[D1]? = some (.deferred (some [])) := (Below.heap_alloc _ _ _ (Array.getElem?_eq_some_iff.1 hKD1).1).trans hKD1
    have hq19X : q7 + 3 ≤ X1.heap.size := tfX.size
    have hqD1 : q + 1 < D1 := by have := tfA.hq; have := tfA.size; omega
    clear hs kn k19X tfX hbB hbX k20 k19A tfA hq19M hq19l hD1
    obtain ⟨q19, hq19⟩ : ∃ x, x = X1.heap.size := ⟨_, rfl⟩
    rw [← hq19] at k19 hq19X ⊢
    have hq19M := hq19X
    clear hq19 hq19X
    generalize X1.alloc (.cells #[.int .i64 1] 3) = w12 at *
    rw [rounds_succ]
    have c19 : w12.cell? ⟨q19, 0, none⟩ = some (.int .i64 1) := (k19.cell 0).trans rfl
    have hnil := fun X => eqlFuncNil (W := X) (.func 41) #[] #[.pointer (some ⟨q7 + 1, 0, none⟩), .pointer (some ⟨q7 + 2, 0, none⟩)]
    have hq19l := k19.lt
    go_wp2_with fail
    have k20 := Row.new w12 3 #[.int .i64 0]
    have hbA : Below (q7 + 3) w12 (w12.alloc (.cells #[.int .i64 0] 3)) := (Below.refl _ _).alloc tf.size _
    have tfA := tf.below hbA
    have k19A := k19.alloc (.cells #[.int .i64 0] 3)
    have hszA : (w12.alloc (.cells #[.int .i64 0] 3)).heap.size = w12.heap.size + 1 := by simp
    obtain ⟨q20, hq20⟩ : ∃ x, x = w12.heap.size := ⟨_, rfl⟩
    rw [← hq20] at k20 hszA hq19l ⊢
    have hD1s : D1 < q20 := by rw [hq20]; exact (Array.getElem?_eq_some_iff.1 hKD1).1
    have hKD1A : (w12.alloc (.cells #[.int .i64 0] 3)).heap[D1]? = some (.deferred (some [])) := (Below.heap_alloc _ _ _ (Array.getElem?_eq_some_iff.1 hKD1).1).trans hKD1
    generalize w12.alloc (.cells #[.int .i64 0] 3) = WA at *
    have hlt20 := k20.lt
    clear tf k19 hbA hq20 c19 hnil
    have hseq := parts1_all a m (q7 + 1) (q7 + 2) WA 9 (by omega) (fun b => b = q20 ∨ b = WA.heap.size + 1) (by rintro b (h | h) <;> omega) (by have := tfA.hga; rintro (h | h) <;> omega) (by have := tfA.hgm; rintro (h | h) <;> omega) tfA.ka tfA.km
    have HS := Lib.hid hseq
    have HSZ := Lib.hid hszA
    clear hseq hszA
    refine name_frame fun T0 hT0 => ?_
    rename_i K0 hK0
    have hrest : ∀ (D : Nat) (X : World), WA.heap.size ≤ D → X.heap[D]? = some (.deferred (some [])) → Row X q20 3 #[.int .i64 (K : Int)] → Same (fun k => k < WA.heap.size ∧ k ≠ q20) WA X → K0 { tmps := T0, defers := { target := .collected D, args := #[] } :: [{ target := .collected D1, args := #[] }] } X := by
      intro D0 X0 hD0 hKD0 kn hs
      refine hK0 _ _ ?_
      rw [hT0]
      clear hT0 HS hK0
      have hbX : Below (q7 + 3) WA X0 := Same.below (hs.mono fun k (hk : k < q7 + 3) => ⟨by have := tfA.size; omega, by omega⟩)
      have tfX := tfA.below hbX
      have k19X := k19A.same hs ⟨by omega, by omega⟩
      have c19 : X0.cell? ⟨q19, 0, none⟩ = some (.int .i64 1) := (k19X.cell 0).trans rfl
      have c20 : X0.cell? ⟨q20, 0, none⟩ = some (.int .i64 (K : Int)) := (kn.cell 0).trans rfl
      have c7' : X0.cell? ⟨q7, 0, none⟩ = some (.slice B K c7) := (tfX.k7.cell 0).trans rfl
      have c5 : X0.cell? ⟨q, 0, none⟩ = some (.int .i64 left) := (tfX.k5.cell 0).trans rfl
      go_wp2_with fail
      clear c19 c20 c7' c5
      have hKD1X : X0.heap[D1]? = some (.deferred (some [])) := (hs.block D1 ⟨by omega, by omega⟩).trans hKD1A
      have k19' := Row.new X0 3 #[.int .i64 2]
      have hbB : Below (q7 + 3) X0 (X0.alloc (.cells #[.int .i64 2] 3)) := (Below.refl _ _).alloc tfX.size _
      have tfB := tfX.below hbB
      have hLX : Later X0 (X0.alloc (.cells #[.int .i64 2] 3)) := (Later.refl X0).alloc _
      have hLwX := tfX.lat
      clear hs kn k19X tfX hbB k20 k19A tfA hKD1A
      have c19 : (X0.alloc (.cells #[.int .i64 2] 3)).cell? ⟨X0.heap.size, 0, none⟩ = some (.int .i64 2) := (k19'.cell 0).trans rfl
      rw [rounds_succ]
      generalize X0.alloc (.cells #[.int .i64 2] 3) = w14 at *
      have hwk := HWK.out w14 (hLwX.step hLX)
      have k614 := tfB.k6
      have c614 : w14.cell? ⟨q + 1, 0, none⟩ = some (.bool false) := (k614.cell 0).trans rfl
      have hqM := tfB.hq
      have hwM := tfB.h1
      clear tfB
      go_wp2_with (first
        | (go_at_call 9; refine hwk.mono ?_; clear hwk; rintro e w15 ⟨rfl, hL15⟩; have k615 := k614.later hL15; have c615 : w15.cell? ⟨q + 1, 0, none⟩ = some (.bool false) := (k615.cell 0).trans rfl; have f615 : w15.frozen? ⟨q + 1, 0, none⟩ = false := k615.frozen 0)
        | fail)
      have hfin := leaveX2 (q := q) hKD0 hKD1X hLwX k615 (hLX.step hL15) (by omega) (by omega) (by have := HQ.out; omega)
      exact leaveM2 (by omega) hfin.1 hfin.2.1 (by simp [results, Tryd.results7, go_sem, hfin.2.2.1]) (HΦ.out _ _ ⟨rfl, hfin.2.2.2⟩)
    refine (wpIn_wide (n := 10)).1 ?_
    refine wpIn_range_W (α := Pt) (Kp := KeepD (fun b => b = q20 ∨ b = WA.heap.size + 1)) rfl (by omega) (gf := 41) (lb := #[.pointer (some ⟨q7 + 1, 0, none⟩), .pointer (some ⟨q7 + 2, 0, none⟩)]) (by rw [hT0]; rfl) trivial (enters_of Tryd.func41 (by kernel_rfl) rfl)
      HS.out (fun r h => h.elim) (fun h k => h.trans k) (fun x W' o => KeepD.put W' o (.inr rfl)) (Below.refl _ _) (fun _ => rfl)
      (fun pre X => pre.length ≤ K ∧ True ∧ Row X q20 3 #[.int .i64 (pre.length : Int)] ∧ Same (fun k => k < WA.heap.size ∧ k ≠ q20) WA X)
      (fun c pre X => False)
      (fun pre X Y ⟨h1, h2, h3, h4⟩ hs => ⟨h1, h2, h3.same hs ⟨by omega, fun h => h⟩, h4.trans (hs.mono fun k hk => ⟨hk.1, fun h => h⟩)⟩)
      (fun c pre X Y h _ => h)
      ⟨by simp, trivial, k20, Same.refl _ _⟩
      (fun pre x a' X => a' = { tmps := (((T0.setIfInBounds 26 (.int .i64 x.i)).setIfInBounds 27 (.int .i64 x.x)).setIfInBounds 11 (.int .i64 x.i)).setIfInBounds 12 (.int .i64 x.x), defers := [] } ∧ pre.length < cntP a m ∧ x.i = pre.length ∧ x.x = partAt a.toNat m.toNat pre.length)
      (fun pre x a' X o h => h) ?assign ?body ?done ?stop
    case assign =>
      intro l0 pre x X K hXs hi hok hK
      have HK' := Lib.hid hK
      have HI := Lib.hid hi
      have HOK := Lib.hid hok
      clear hK hi hok
      have e89 : ((#[26, 27] : Array Tmp).zip (ptE x)).foldl (fun t (p, v) => t.setIfInBounds p v) T0 = (T0.setIfInBounds 26 (.int .i64 x.i)).setIfInBounds 27 (.int .i64 x.x) := by simp
      rw [e89, hT0]
      clear e89
      simp only [List.setIfInBounds_toArray, List.set_cons_succ, List.set_cons_zero]
      gi_wp2
      exact HK'.out _ _ (KeepsFrom.refl _ _) KeepD.refl HI.out ⟨by rw [hT0]; rfl, HOK.out⟩
    case body =>
      rintro l0 pre x a' X hl hlo hXs ⟨h1, hcond, h3, h4⟩ ⟨rfl, hki, hxi, hxx⟩
      have hplen : (pre ++ [x]).length = pre.length + 1 := by simp
      obtain ⟨k, hk⟩ : ∃ k, pre.length = k := ⟨_, rfl⟩
      rw [HK.out] at hki
      rw [hk] at h1 h3 hplen hki hxi hxx
      have hbX : Below (q7 + 3) WA X := Same.below (h4.mono fun k (hk : k < q7 + 3) => ⟨by have := tfA.size; omega, by omega⟩)
      have tfX := tfA.below hbX
      obtain ⟨hkl, hgk⟩ := partsL_get (a := a) (m := m) (k := k) (by rw [HK.out]; exact hki)
      obtain ⟨bb, bo, rfl, hcx⟩ := tfX.rd.at_ hkl
      rw [hgk, ← hxx] at hcx
      obtain ⟨xi, xx⟩ := x
      simp only at hxi hxx hcx
      subst hxi
      have k19X := k19A.same h4 ⟨by omega, by omega⟩
      have hset := h3.set 0 (.int .i64 ((k : Int) + 1))
      have k19s := k19X.far (p := ⟨q20, 0, none⟩) (by show q19 ≠ q20; omega) (.int .i64 ((k : Int) + 1))
      have hqM := tfX.hq
      have h7M := tfX.h7
      have k5s := tfX.k5.far (p := ⟨q20, 0, none⟩) (by show q ≠ q20; omega) (.int .i64 ((k : Int) + 1))
      have c20 : X.cell? ⟨q20, 0, none⟩ = some (.int .i64 (k : Int)) := (h3.cell 0).trans rfl
      have f20 : X.frozen? ⟨q20, 0, none⟩ = false := h3.frozen 0
      have c7x : X.cell? ⟨q7, 0, none⟩ = some (.slice (some ⟨bb, bo, none⟩) K c7) := (tfX.k7.cell 0).trans rfl
      have c20s : (X.setCell ⟨q20, 0, none⟩ (.int .i64 ((k : Int) + 1))).cell? ⟨q20, 0, none⟩ = some (.int .i64 ((k : Int) + 1)) := (hset.cell 0).trans rfl
      have c19s : (X.setCell ⟨q20, 0, none⟩ (.int .i64 ((k : Int) + 1))).cell? ⟨q19, 0, none⟩ = some (.int .i64 1) := (k19s.cell 0).trans rfl
      have c5s : (X.setCell ⟨q20, 0, none⟩ (.int .i64 ((k : Int) + 1))).cell? ⟨q, 0, none⟩ = some (.int .i64 left) := (k5s.cell 0).trans rfl
      have hwr1 : IntKind.i64.wrap ((k : Int) + 1) = (k : Int) + 1 := IntWalk.i64_in _ (by omega)
      have hd1 : decide ((K : Int) ≤ (k : Int)) = false := decide_eq_false (by omega)
      have hd2 : decide (K ≤ k) = false := decide_eq_false (by omega)
      have hd3 : decide (k < K) = true := decide_eq_true hki
      have hkw2 : KeepD (fun b => b = q20 ∨ b = WA.heap.size + 1) (⟨(k : Int), xx⟩ : Pt) X (X.setCell ⟨q20, 0, none⟩ (.int .i64 ((k : Int) + 1))) := KeepD.set X ⟨q20, 0, none⟩ _ (.inl rfl)
      have hkf : KeepsFrom WA.heap.size X (X.setCell ⟨q20, 0, none⟩ (.int .i64 ((k : Int) + 1))) := (KeepD.set (D := fun b => b = q20) (x := (⟨(k : Int), xx⟩ : Pt)) X ⟨q20, 0, none⟩ _ rfl).from (fun b h => by omega)
      have hsame : Same (fun k => k < WA.heap.size ∧ k ≠ q20) WA (X.setCell ⟨q20, 0, none⟩ (.int .i64 ((k : Int) + 1))) := h4.trans ((Same.set X ⟨q20, 0, none⟩ _).mono fun k hk => hk.2)
      rw [hT0]
      simp only [List.setIfInBounds_toArray, List.set_cons_succ, List.set_cons_zero]
      have HPL := Lib.hid hplen
      have HREST := Lib.hid hrest
      clear hplen hT0 hrest hK0 HS hbX tfX hkl hgk hxx h3 h4 k19X k19s k5s
      gi_wp2_with fail
      exact ⟨hkf, hkw2, by rw [HPL.out]; exact hki, trivial, by rw [HPL.out]; exact hset, hsame⟩
    case done =>
      rintro D0 ys X hD hS ⟨h1, h2, h3, h4⟩ hK
      have hyK : ys.length = K := by rw [← HK.out]; exact hS
      rw [hyK] at h3
      exact hrest D0 X hD hK h3 h4
    case stop =>
      exact fun _ _ _ _ _ _ h _ => h.elim
  refine (wpIn_wide (n := 10)).1 ?_
  refine wpIn_range_W (α := Pt) (Kp := KeepD (fun b => b = q20 ∨ b = WA.heap.size + 1)) rfl (by omega) (gf := 41) (lb := #[.pointer (some ⟨q7 + 1, 0, none⟩), .pointer (some ⟨q7 + 2, 0, none⟩)]) (by rw [hT0]; rfl) trivial (enters_of Tryd.func41 (by kernel_rfl) rfl)
    HS.out (fun r h => h.elim) (fun h k => h.trans k) (fun x W' o => KeepD.put W' o (.inr rfl)) (Below.refl _ _) (fun _ => rfl)
    (fun pre X => pre.length ≤ K ∧ (pre.length = 0 ∨ (pre.length : Int) < left) ∧ Row X q20 3 #[.int .i64 (pre.length : Int)] ∧ Same (fun k => k < WA.heap.size ∧ k ≠ q20) WA X)
    (fun c pre X => c = Code.exit 2 ∧ pre.length = Z ∧ Row X q20 3 #[.int .i64 (pre.length : Int)] ∧ Same (fun k => k < WA.heap.size ∧ k ≠ q20) WA X)
    (fun pre X Y ⟨h1, h2, h3, h4⟩ hs => ⟨h1, h2, h3.same hs ⟨by omega, fun h => h⟩, h4.trans (hs.mono fun k hk => ⟨hk.1, fun h => h⟩)⟩)
    (fun c pre X Y ⟨h1, h2, h3, h4⟩ hs => ⟨h1, h2, h3.same hs ⟨by omega, fun h => h⟩, h4.trans (hs.mono fun k hk => ⟨hk.1, fun h => h⟩)⟩)
    ⟨by simp, .inl rfl, k20, Same.refl _ _⟩
    (fun pre x a' X => a' = { tmps := (((T0.setIfInBounds 26 (.int .i64 x.i)).setIfInBounds 27 (.int .i64 x.x)).setIfInBounds 11 (.int .i64 x.i)).setIfInBounds 12 (.int .i64 x.x), defers := [] } ∧ pre.length < cntP a m ∧ x.i = pre.length ∧ x.x = partAt a.toNat m.toNat pre.length)
    (fun pre x a' X o h => h) ?assign ?body ?done ?stop
  case assign =>
    intro l0 pre x X K hXs hi hok hK
    have HK' := Lib.hid hK
    have HI := Lib.hid hi
    have HOK := Lib.hid hok
    clear hK hi hok
    have e89 : ((#[26, 27] : Array Tmp).zip (ptE x)).foldl (fun t (p, v) => t.setIfInBounds p v) T0 = (T0.setIfInBounds 26 (.int .i64 x.i)).setIfInBounds 27 (.int .i64 x.x) := by simp
    rw [e89, hT0]
    clear e89
    simp only [List.setIfInBounds_toArray, List.set_cons_succ, List.set_cons_zero]
    gi_wp2
    exact HK'.out _ _ (KeepsFrom.refl _ _) KeepD.refl HI.out ⟨by rw [hT0]; rfl, HOK.out⟩
  case body =>
    rintro l0 pre x a' X hl hlo hXs ⟨h1, hcond, h3, h4⟩ ⟨rfl, hki, hxi, hxx⟩
    have hplen : (pre ++ [x]).length = pre.length + 1 := by simp
    obtain ⟨k, hk⟩ : ∃ k, pre.length = k := ⟨_, rfl⟩
    rw [HK.out] at hki
    rw [hk] at h1 hcond h3 hplen hki hxi hxx
    have hbX : Below (q7 + 3) WA X := Same.below (h4.mono fun k (hk : k < q7 + 3) => ⟨by have := tfA.size; omega, by omega⟩)
    have tfX := tfA.below hbX
    obtain ⟨hkl, hgk⟩ := partsL_get (a := a) (m := m) (k := k) (by rw [HK.out]; exact hki)
    obtain ⟨bb, bo, rfl, hcx⟩ := tfX.rd.at_ hkl
    rw [hgk, ← hxx] at hcx
    obtain ⟨xi, xx⟩ := x
    simp only at hxi hxx hcx
    subst hxi
    have k19X := k19A.same h4 ⟨by omega, by omega⟩
    have hset := h3.set 0 (.int .i64 ((k : Int) + 1))
    have k19s := k19X.far (p := ⟨q20, 0, none⟩) (by show q19 ≠ q20; omega) (.int .i64 ((k : Int) + 1))
    have hqM := tfX.hq
    have h7M := tfX.h7
    have k5s := tfX.k5.far (p := ⟨q20, 0, none⟩) (by show q ≠ q20; omega) (.int .i64 ((k : Int) + 1))
    have c20 : X.cell? ⟨q20, 0, none⟩ = some (.int .i64 (k : Int)) := (h3.cell 0).trans rfl
    have f20 : X.frozen? ⟨q20, 0, none⟩ = false := h3.frozen 0
    have c7x : X.cell? ⟨q7, 0, none⟩ = some (.slice (some ⟨bb, bo, none⟩) K c7) := (tfX.k7.cell 0).trans rfl
    have c20s : (X.setCell ⟨q20, 0, none⟩ (.int .i64 ((k : Int) + 1))).cell? ⟨q20, 0, none⟩ = some (.int .i64 ((k : Int) + 1)) := (hset.cell 0).trans rfl
    have c19s : (X.setCell ⟨q20, 0, none⟩ (.int .i64 ((k : Int) + 1))).cell? ⟨q19, 0, none⟩ = some (.int .i64 0) := (k19s.cell 0).trans rfl
    have c5s : (X.setCell ⟨q20, 0, none⟩ (.int .i64 ((k : Int) + 1))).cell? ⟨q, 0, none⟩ = some (.int .i64 left) := (k5s.cell 0).trans rfl
    have hwr1 : IntKind.i64.wrap ((k : Int) + 1) = (k : Int) + 1 := IntWalk.i64_in _ (by omega)
    have hd1 : decide ((K : Int) ≤ (k : Int)) = false := decide_eq_false (by omega)
    have hd2 : decide (K ≤ k) = false := decide_eq_false (by omega)
    have hd3 : decide (k < K) = true := decide_eq_true hki
    have hkw2 : KeepD (fun b => b = q20 ∨ b = WA.heap.size + 1) (⟨(k : Int), xx⟩ : Pt) X (X.setCell ⟨q20, 0, none⟩ (.int .i64 ((k : Int) + 1))) := KeepD.set X ⟨q20, 0, none⟩ _ (.inl rfl)
    have hkf : KeepsFrom WA.heap.size X (X.setCell ⟨q20, 0, none⟩ (.int .i64 ((k : Int) + 1))) := (KeepD.set (D := fun b => b = q20) (x := (⟨(k : Int), xx⟩ : Pt)) X ⟨q20, 0, none⟩ _ rfl).from (fun b h => by omega)
    have hsame : Same (fun k => k < WA.heap.size ∧ k ≠ q20) WA (X.setCell ⟨q20, 0, none⟩ (.int .i64 ((k : Int) + 1))) := h4.trans ((Same.set X ⟨q20, 0, none⟩ _).mono fun k hk => hk.2)
    rw [hT0]
    simp only [List.setIfInBounds_toArray, List.set_cons_succ, List.set_cons_zero]
    have HPL := Lib.hid hplen
    have HREST := Lib.hid hrest
    clear hplen hT0 hrest hK0 HS hbX tfX hkl hgk hxx h3 h4 k19X k19s k5s
    by_cases hbr : left ≤ (k : Int) + 1
    · have hdb : decide (left ≤ (k : Int) + 1) = true := decide_eq_true hbr
      gi_wp2_with fail
      exact ⟨hkf, hkw2, rfl, by rw [HPL.out]; exact HZE.out k hki hcond hbr, by rw [HPL.out]; exact hset, hsame⟩
    · have hdb : decide (left ≤ (k : Int) + 1) = false := decide_eq_false hbr
      gi_wp2_with fail
      exact ⟨hkf, hkw2, by rw [HPL.out]; exact hki, .inr (by rw [HPL.out]; omega), by rw [HPL.out]; exact hset, hsame⟩
  case done =>
    rintro D0 ys X hD hS ⟨h1, h2, h3, h4⟩ hK
    have hyK : ys.length = K := by rw [← HK.out]; exact hS
    rw [hyK] at h2 h3
    have hZK := HZD.out h2
    exact hrest D0 X hD hK (by rw [hZK]; exact h3) h4
  case stop =>
    rintro D0 c' pre X hD hSp ⟨rfl, hZ, h3, h4⟩ hK
    rw [hZ] at h3
    gi_wp2
    exact hrest D0 X hD hK h3 h4
end Go.Proofs.YtcfhhljjknmniaaDoor
