/- money: Holds: the statement's walk. -/
import Derived.Test.YtcfhhljjknmniaaDoorMh0
set_option linter.unusedVariables false
set_option linter.unusedSimpArgs false
namespace Go.Proofs.YtcfhhljjknmniaaDoor
open Go.RowKit
attribute [local go_sem] Oper.semAt_some
theorem leaveM1 {F : Fence} {n : Nat} {P : Program} {fn : Func} {R : Ending → World → Prop} {T : Array Value} {D : Nat} {w : World} {v : Value} (hD : w.heap[D]? = some (.deferred (some [])))
    (h : (results fn T).run P (w.putObj D (.deferred none)) = .ok v (w.putObj D (.deferred none))) (hR : R (.returned v) (w.putObj D (.deferred none))) :
    bodyPostM F n P fn R .ret { tmps := T, defers := [{ target := .collected D, args := #[] }] } w :=
  ⟨by simp, .inl ⟨_, _, rfl, run_takeDeferred hD, v, h, hR⟩⟩
theorem leaveX1 {q D : Nat} {w X W : World} (hK : X.heap[D]? = some (.deferred (some []))) (hb : Below w.heap.size w X) (k6 : Row W (q + 1) 4 #[.bool false]) (hL : Later X W) (hqD : q + 1 < D) (hq : w.heap.size ≤ q) :
    (W.setCell ⟨q + 1, 0, none⟩ (.bool true)).heap[D]? = some (.deferred (some [])) ∧
      ((W.setCell ⟨q + 1, 0, none⟩ (.bool true)).putObj D (.deferred none)).cell? ⟨q + 1, 0, none⟩ = some (.bool true) ∧
      Below w.heap.size w ((W.setCell ⟨q + 1, 0, none⟩ (.bool true)).putObj D (.deferred none)) := by
  have hs := hb.size
  have hs2 := hL.size
  have hB : Below w.heap.size w (W.setCell ⟨q + 1, 0, none⟩ (.bool true)) := (hb.trans (hL.mono hs)).setCell (p := ⟨q + 1, 0, none⟩) (by show w.heap.size ≤ q + 1; omega) _
  refine ⟨(Below.heap_setCell W ⟨q + 1, 0, none⟩ _ D (by show D ≠ q + 1; omega)).trans ((Below.block hL D (Array.getElem?_eq_some_iff.1 hK).1).trans hK), ?_, hB.trans (below_put w.heap.size _ D (.deferred none) (by omega) hB.size)⟩
  exact (World.cell?_of_block (w := W.setCell ⟨q + 1, 0, none⟩ (.bool true)) (a := ⟨q + 1, 0, none⟩) (World.putObj_heap_other (by show q + 1 ≠ D; omega))).trans (((k6.set 0 (.bool true)).cell 0).trans rfl)
theorem amtsA {A : Nat} (h : A ≤ 1125899906842624) : amts [(A : Int)] = true := by
  simp [amts, bad, maxAmt]
  omega
theorem shareNat {A x : Nat} (h : amts [(A : Int)] = true) (hx : x ≤ 1000000) : shareS A x = (((A * x / 1000000 : Nat) : Int), 0) := by
  have hr : okRate (x : Int) = true := by
    simp [okRate, bad]
    omega
  simp [shareS, h, hr]
theorem leaveM0 {F : Fence} {n : Nat} {P : Program} {fn : Func} {R : Ending → World → Prop} {T : Array Value} {w : World} {v : Value} (h : (results fn T).run P w = .ok v w) (hR : R (.returned v) w) : bodyPostM F n P fn R .ret { tmps := T, defers := [] } w := ⟨v, h, hR⟩
set_option maxRecDepth 100000 in
set_option maxHeartbeats 32000000 in
theorem moneyHolds_walk (a : Int) (wa : (Lit.int .i64 a).wf = true) (b : Int) (wb : (Lit.int .i64 b).wf = true) (c : Int) (wc : (Lit.int .i64 c).wf = true) (one : Int) (wo : (Lit.int .i64 one).wf = true) (two : Int) (wt : (Lit.int .i64 two).wf = true) (m : Int) (wm : (Lit.int .i64 m).wf = true) (sb : ByteArray) (ws : sb.size ≤ maxLen) (w : World) (hT : Tabs w) :
    Calls Tryd.prog 8 #[.int .i64 a, .int .i64 b, .int .i64 c, .int .i64 one, .int .i64 two, .int .i64 m, .string sb] w fun e w' => e = .returned (.bool true) ∧ Below w.heap.size w w' := by
  refine Calls.post fun Φ HΦ => ?_
  obtain ⟨s, rfl⟩ : ∃ s : List UInt8, sb = ⟨s.toArray⟩ := ⟨sb.data.toList, by rw [Array.toArray_toList]⟩
  have hwk := fun W (h : Later w W) => works_yes W (hT.later h)
  have k5 := (Row.new w 2 #[.int .i64 a]).alloc (.cells #[.bool false] 4)
  have k6 := Row.new (w.alloc (.cells #[.int .i64 a] 2)) 4 #[.bool false]
  have hL1 := ((Later.refl w).alloc (.cells #[.int .i64 a] 2)).alloc (.cells #[.bool false] 4)
  simp only [World.size_alloc] at k6
  have HT := Lib.hid hT
  clear wa wb wc wo wt wm ws hT
  refine (callsIn_wide (n := 10)).1 ?_
  refine callsIn_of_wp_marks Tryd.func8 rfl trivial ?_ rfl
  simp only [Tryd.ntmps8, List.size_toArray, List.length_cons, List.length_nil, Nat.reduceAdd, Nat.reduceSub, Array.replicate_succ, Array.replicate_zero, List.push_toArray, List.append_toArray, List.nil_append, List.cons_append]
  refine wpIn_wide.2 ?_
  go_upto_region 1 with fail
  obtain ⟨q, hq⟩ : ∃ q, q = w.heap.size := ⟨_, rfl⟩
  rw [← hq] at k5 k6 ⊢
  have hqw : w.heap.size ≤ q := by omega
  clear hq
  generalize (w.alloc (.cells #[.int .i64 a] 2)).alloc (.cells #[.bool false] 4) = w1 at *
  have hck := check_any (some ⟨w1.heap.size, 0, none⟩) 3 3 [a, b, c] _ rfl (by omega) (rd3Z a b c w1)
  have hLk := hL1.alloc (.cells #[.int .i64 a, .int .i64 b, .int .i64 c] 2)
  have c5 : w1.cell? ⟨q, 0, none⟩ = some (.int .i64 a) := (k5.cell 0).trans rfl
  by_cases hlen : s.length ≤ 60
  case neg =>
    have hd : decide ((60 : Int) < (s.length : Int)) = true := decide_eq_true (by omega)
    have hd2 : decide (60 < s.length) = true := decide_eq_true (by omega)
    have hwk1 := hwk w1 hL1
    clear hck hLk
    go_wp2_with (first
      | (go_at_call 9; refine hwk1.mono ?_; clear hwk1; rintro e w4 ⟨rfl, hL4⟩; have k64 := k6.later hL4; have c64 : w4.cell? ⟨q + 1, 0, none⟩ = some (.bool false) := (k64.cell 0).trans rfl; have f64 : w4.frozen? ⟨q + 1, 0, none⟩ = false := k64.frozen 0)
      | fail)
    have c6r : (w4.setCell ⟨q + 1, 0, none⟩ (.bool true)).cell? ⟨q + 1, 0, none⟩ = some (.bool true) := ((k64.set 0 _).cell 0).trans rfl
    exact leaveM0 (by simp [results, Tryd.results8, go_sem, c6r]) (HΦ.out _ _ ⟨rfl, Below.setCell (hL1.step hL4) (by show w.heap.size ≤ q + 1; omega) _⟩)
  have hd : decide ((60 : Int) < (s.length : Int)) = false := decide_eq_false (by omega)
  have hd2 : decide (60 < s.length) = false := decide_eq_false (by omega)
  cases hok : amts [a, b, c] with
  | false =>
    rw [hok] at hck
    go_wp2_with (first
      | (refine wpList_buildSl rfl 22 3 _ rfl #[(0, .int .i64 _), (1, .int .i64 _), (2, .int .i64 _)] rfl (build3Z _ _ _ _) ?_)
      | (go_at_call 16; refine hck.mono ?_; clear hck; rintro e w2 ⟨rfl, hL2⟩; have k62 := (k6.alloc (.cells #[.int .i64 a, .int .i64 b, .int .i64 c] 2)).later hL2; have hLa := hLk.step hL2; clear hLk hL2)
      | (go_at_call 15; refine (num5_any _ _).mono ?_; rintro e wb ⟨rfl, rfl⟩)
      | (go_at_call 9; refine (hwk _ hLa).mono ?_; clear hwk; rintro e w4 ⟨rfl, hL4⟩; have k64 := k62.later hL4; have c64 : w4.cell? ⟨q + 1, 0, none⟩ = some (.bool false) := (k64.cell 0).trans rfl; have f64 : w4.frozen? ⟨q + 1, 0, none⟩ = false := k64.frozen 0)
      | fail)
    have c6r : (w4.setCell ⟨q + 1, 0, none⟩ (.bool true)).cell? ⟨q + 1, 0, none⟩ = some (.bool true) := ((k64.set 0 _).cell 0).trans rfl
    exact leaveM0 (by simp [results, Tryd.results8, go_sem, c6r]) (HΦ.out _ _ ⟨rfl, Below.setCell (hLa.step hL4) (by show w.heap.size ≤ q + 1; omega) _⟩)
  | true =>
    rw [hok] at hck
    go_upto_region 3 with (first
      | (refine wpList_buildSl rfl 22 3 _ rfl #[(0, .int .i64 _), (1, .int .i64 _), (2, .int .i64 _)] rfl (build3Z _ _ _ _) ?_)
      | (go_at_call 16; refine hck.mono ?_; clear hck; rintro e w2 ⟨rfl, hL2⟩; have k62 := (k6.alloc (.cells #[.int .i64 a, .int .i64 b, .int .i64 c] 2)).later hL2; have k52 := (k5.alloc (.cells #[.int .i64 a, .int .i64 b, .int .i64 c] 2)).later hL2; have hLa := hLk.step hL2; clear hLk hL2 k5 k6 c5)
      | (go_at_call 15; refine (num5_any _ _).mono ?_; rintro e wb ⟨rfl, rfl⟩)
      | fail)
    obtain ⟨hb1, hb2, hb3⟩ := amts3 hok
    have c52 : w2.cell? ⟨q, 0, none⟩ = some (.int .i64 a) := (k52.cell 0).trans rfl
    have hadd := fun W => add_any (some ⟨World.heap W |>.size, 0, none⟩) 3 3 [a, b, c] _ rfl (by omega) (rd3Z a b c W)
    have hadd2 := fun W => add_any (some ⟨World.heap W |>.size, 0, none⟩) 3 3 [c, a, b] _ rfl (by omega) (rd3Z c a b W)
    rw [add_swap] at hadd2
    obtain ⟨x, hx⟩ : ∃ x, addS [a, b, c] = x := ⟨_, rfl⟩
    rw [hx] at hadd hadd2
    obtain ⟨x1, x2⟩ := x
    simp only at hadd hadd2
    have HX := Lib.hid hx
    have HOK := Lib.hid hok
    clear hx hok hL1 hd hd2
    go_upto_region 7 with (first
      | (refine wpList_buildSl rfl 22 3 _ rfl #[(0, .int .i64 _), (1, .int .i64 _), (2, .int .i64 _)] rfl (build3Z _ _ _ _) ?_)
      | (go_at_call 10; refine (hadd _).mono ?_; clear hadd; rintro e w3 ⟨rfl, hL3⟩; have k53 := (k52.alloc (.cells #[.int .i64 a, .int .i64 b, .int .i64 c] 2)).later hL3; have k63 := (k62.alloc (.cells #[.int .i64 a, .int .i64 b, .int .i64 c] 2)).later hL3; have hLb := (hLa.alloc _).step hL3; clear hLa hL3 k52 k62 c52; have c53 : w3.cell? ⟨q, 0, none⟩ = some (.int .i64 a) := (k53.cell 0).trans rfl)
      | (go_at_call 10; refine (hadd2 _).mono ?_; clear hadd2; rintro e w4 ⟨rfl, hL4⟩; have k54 := (k53.alloc (.cells #[.int .i64 c, .int .i64 a, .int .i64 b] 2)).later hL4; have k64 := (k63.alloc (.cells #[.int .i64 c, .int .i64 a, .int .i64 b] 2)).later hL4; have hLc := (hLb.alloc _).step hL4; clear hLb hL4 k53 k63 c53)
      | (go_at_call 15; refine (num5_any _ _).mono ?_; rintro e wb ⟨rfl, rfl⟩)
      | fail)
    refine name_frame fun T0 hT0 => ?_
    rename_i K1 hK1 K0 hK0
    have hrest : ∀ (u19 u20 u80 u81 u82 u83 u84 u85 u86 u87 u88 u89 u90 u91 u92 u93 u94 u95 u96 u97 u98 : Value) (X : World), Later w X → Row X q 2 #[.int .i64 a] → Row X (q + 1) 4 #[.bool false] → K1 { tmps := (((((((((((((((((((((T0).setIfInBounds 19 u19).setIfInBounds 20 u20).setIfInBounds 80 u80).setIfInBounds 81 u81).setIfInBounds 82 u82).setIfInBounds 83 u83).setIfInBounds 84 u84).setIfInBounds 85 u85).setIfInBounds 86 u86).setIfInBounds 87 u87).setIfInBounds 88 u88).setIfInBounds 89 u89).setIfInBounds 90 u90).setIfInBounds 91 u91).setIfInBounds 92 u92).setIfInBounds 93 u93).setIfInBounds 94 u94).setIfInBounds 95 u95).setIfInBounds 96 u96).setIfInBounds 97 u97).setIfInBounds 98 u98, defers := [] } X := by
      intro u19 u20 u80 u81 u82 u83 u84 u85 u86 u87 u88 u89 u90 u91 u92 u93 u94 u95 u96 u97 u98 X hLX k5X k6X
      refine hK1 _ _ ?_
      rw [hT0]
      simp only [List.setIfInBounds_toArray, List.set_cons_succ, List.set_cons_zero]
      clear hT0 k54 k64 hLc hK1 hK0
      go_upto_region 11 with fail
      refine name_frame fun T0 hT0 => ?_
      rename_i Ka hKa Kb hKb
      have hrest2 : ∀ (u21 u22 u23 u24 u25 u26 u99 u100 u101 u102 u103 u104 u105 u106 u107 u108 u109 u110 u111 u112 u113 u114 u115 u116 u117 u118 u119 u120 u121 u122 u123 u124 u125 u126 u127 u128 u129 u130 u131 u132 u133 u134 u135 u136 u137 u138 u139 u140 u141 u142 u143 u144 u145 u146 u147 u148 u149 u150 u151 u152 u153 u154 u155 u156 u157 u158 u159 u160 u161 u162 u163 : Value) (Y : World), Later w Y → Row Y q 2 #[.int .i64 a] → Row Y (q + 1) 4 #[.bool false] → Ka { tmps := (((((((((((((((((((((((((((((((((((((((((((((((((((((((((((((((((((((((T0).setIfInBounds 21 u21).setIfInBounds 22 u22).setIfInBounds 23 u23).setIfInBounds 24 u24).setIfInBounds 25 u25).setIfInBounds 26 u26).setIfInBounds 99 u99).setIfInBounds 100 u100).setIfInBounds 101 u101).setIfInBounds 102 u102).setIfInBounds 103 u103).setIfInBounds 104 u104).setIfInBounds 105 u105).setIfInBounds 106 u106).setIfInBounds 107 u107).setIfInBounds 108 u108).setIfInBounds 109 u109).setIfInBounds 110 u110).setIfInBounds 111 u111).setIfInBounds 112 u112).setIfInBounds 113 u113).setIfInBounds 114 u114).setIfInBounds 115 u115).setIfInBounds 116 u116).setIfInBounds 117 u117).setIfInBounds 118 u118).setIfInBounds 119 u119).setIfInBounds 120 u120).setIfInBounds 121 u121).setIfInBounds 122 u122).setIfInBounds 123 u123).setIfInBounds 124 u124).setIfInBounds 125 u125).setIfInBounds 126 u126).setIfInBounds 127 u127).setIfInBounds 128 u128).setIfInBounds 129 u129).setIfInBounds 130 u130).setIfInBounds 131 u131).setIfInBounds 132 u132).setIfInBounds 133 u133).setIfInBounds 134 u134).setIfInBounds 135 u135).setIfInBounds 136 u136).setIfInBounds 137 u137).setIfInBounds 138 u138).setIfInBounds 139 u139).setIfInBounds 140 u140).setIfInBounds 141 u141).setIfInBounds 142 u142).setIfInBounds 143 u143).setIfInBounds 144 u144).setIfInBounds 145 u145).setIfInBounds 146 u146).setIfInBounds 147 u147).setIfInBounds 148 u148).setIfInBounds 149 u149).setIfInBounds 150 u150).setIfInBounds 151 u151).setIfInBounds 152 u152).setIfInBounds 153 u153).setIfInBounds 154 u154).setIfInBounds 155 u155).setIfInBounds 156 u156).setIfInBounds 157 u157).setIfInBounds 158 u158).setIfInBounds 159 u159).setIfInBounds 160 u160).setIfInBounds 161 u161).setIfInBounds 162 u162).setIfInBounds 163 u163, defers := [] } Y := by
        intro u21 u22 u23 u24 u25 u26 u99 u100 u101 u102 u103 u104 u105 u106 u107 u108 u109 u110 u111 u112 u113 u114 u115 u116 u117 u118 u119 u120 u121 u122 u123 u124 u125 u126 u127 u128 u129 u130 u131 u132 u133 u134 u135 u136 u137 u138 u139 u140 u141 u142 u143 u144 u145 u146 u147 u148 u149 u150 u151 u152 u153 u154 u155 u156 u157 u158 u159 u160 u161 u162 u163 Y hLY k5Y k6Y
        refine hKa _ _ ?_
        rw [hT0]
        simp only [List.setIfInBounds_toArray, List.set_cons_succ, List.set_cons_zero]
        clear hT0 k5X k6X hLX hKa hKb
        go_upto_region 18 with fail
        obtain ⟨g, hg⟩ : ∃ g, Y.heap.size = g := ⟨_, rfl⟩
        have hqg : q + 1 < g := by rw [← hg]; exact k6Y.lt
        have hLZ : Later Y ((((Y.alloc (.cells #[.int .i64 0] 2)).alloc (.cells #[.int .i64 (-1)] 2)).alloc (.cells #[.int .i64 0] 2)).alloc (.cells #[.int .i64 0] 3)) := ((((Later.refl Y).alloc _).alloc _).alloc _).alloc _
        have k27 := (((Row.new Y 2 #[.int .i64 0]).alloc (.cells #[.int .i64 (-1)] 2)).alloc (.cells #[.int .i64 0] 2)).alloc (.cells #[.int .i64 0] 3)
        have k28 := ((Row.new (Y.alloc (.cells #[.int .i64 0] 2)) 2 #[.int .i64 (-1)]).alloc (.cells #[.int .i64 0] 2)).alloc (.cells #[.int .i64 0] 3)
        have k29 := (Row.new ((Y.alloc (.cells #[.int .i64 0] 2)).alloc (.cells #[.int .i64 (-1)] 2)) 2 #[.int .i64 0]).alloc (.cells #[.int .i64 0] 3)
        have k30 := Row.new (((Y.alloc (.cells #[.int .i64 0] 2)).alloc (.cells #[.int .i64 (-1)] 2)).alloc (.cells #[.int .i64 0] 2)) 3 #[.int .i64 0]
        have hszZ : ((((Y.alloc (.cells #[.int .i64 0] 2)).alloc (.cells #[.int .i64 (-1)] 2)).alloc (.cells #[.int .i64 0] 2)).alloc (.cells #[.int .i64 0] 3)).heap.size = g + 4 := by simp only [World.size_alloc]; rw [hg]
        simp only [World.size_alloc] at k28 k29 k30
        rw [hg] at k27 k28 k29 k30 ⊢
        have k5Z := k5Y.later hLZ
        have k6Z := k6Y.later hLZ
        have hLwZ := hLY.step hLZ
        clear k5Y k6Y hLY hLZ hg
        generalize (((Y.alloc (.cells #[.int .i64 0] 2)).alloc (.cells #[.int .i64 (-1)] 2)).alloc (.cells #[.int .i64 0] 2)).alloc (.cells #[.int .i64 0] 3) = Z at *
        have c5Z : Z.cell? ⟨q, 0, none⟩ = some (.int .i64 a) := (k5Z.cell 0).trans rfl
        have hp1 := parts_any a m Z
        rw [hszZ] at hp1
        have hnil := fun X => eqlFuncNil (W := X) (.func 41) #[] #[.pointer (some ⟨g + 4, 0, none⟩), .pointer (some ⟨g + 4 + 1, 0, none⟩)]
        have hLP := ((Later.refl Z).alloc (.cells #[.int .i64 a] 2)).alloc (.cells #[.int .i64 m] 3)
        have hszP : ((Z.alloc (.cells #[.int .i64 a] 2)).alloc (.cells #[.int .i64 m] 3)).heap.size = g + 6 := by simp only [World.size_alloc]; rw [hszZ]
        go_upto_region 20 with (first
          | (go_at_call 27; refine hp1.mono ?_; clear hp1; rintro e wp ⟨rfl, rfl⟩)
          | fail)
        have k5P := k5Z.later hLP
        have k6P := k6Z.later hLP
        have k27P := k27.later hLP
        have k28P := k28.later hLP
        have k29P := k29.later hLP
        have k30P := k30.later hLP
        have hLwP := hLwZ.step hLP
        clear k5Z k6Z k27 k28 k29 k30 hLwZ hLP c5Z hnil hszZ
        generalize (Z.alloc (.cells #[.int .i64 a] 2)).alloc (.cells #[.int .i64 m] 3) = Z2 at *
        have c5P : Z2.cell? ⟨q, 0, none⟩ = some (.int .i64 a) := (k5P.cell 0).trans rfl
        have hp2 := parts_any a m Z2
        rw [hszP] at hp2
        go_wp2_with (first
          | (go_at_call 27; refine hp2.mono ?_; clear hp2; rintro e wp ⟨rfl, rfl⟩)
          | fail)
        have hLQ := ((Later.refl Z2).alloc (.cells #[.int .i64 a] 2)).alloc (.cells #[.int .i64 m] 3)
        have ka := (Row.new Z2 2 #[.int .i64 a]).alloc (.cells #[.int .i64 m] 3)
        have km := Row.new (Z2.alloc (.cells #[.int .i64 a] 2)) 3 #[.int .i64 m]
        have hszW : ((Z2.alloc (.cells #[.int .i64 a] 2)).alloc (.cells #[.int .i64 m] 3)).heap.size = g + 8 := by simp only [World.size_alloc]; rw [hszP]
        rw [World.size_alloc] at km
        rw [hszP] at ka km
        have k5A := k5P.later hLQ
        have k6A := k6P.later hLQ
        have k27A := k27P.later hLQ
        have k28A := k28P.later hLQ
        have k29A := k29P.later hLQ
        have k30A := k30P.later hLQ
        have hLwA := hLwP.step hLQ
        clear k5P k6P k27P k28P k29P k30P hLwP hLQ c5P hszP
        generalize (Z2.alloc (.cells #[.int .i64 a] 2)).alloc (.cells #[.int .i64 m] 3) = WA at *
        have hseq := parts1_all a m (g + 6) (g + 6 + 1) WA 9 (by omega) (fun b => (g ≤ b ∧ b ≤ g + 3) ∨ b = WA.heap.size + 1) (by rintro b (h | h) <;> omega) (by rintro (h | h) <;> omega) (by rintro (h | h) <;> omega) ka km
        have HS := Lib.hid hseq
        have hszl : g + 8 ≤ WA.heap.size := by omega
        have HSZ := Lib.hid hszW
        clear hseq hszW
        refine name_frame fun T0 hT0 => ?_
        rename_i Kc hKc
        obtain ⟨A, rfl⟩ := Int.eq_ofNat_of_zero_le hb1.1
        have hAb : A ≤ 1125899906842624 := by omega
        have hMb : ∀ k, k < cntP A m → cntP A m = m.toNat ∧ m = m.toNat ∧ 1 ≤ m.toNat ∧ m.toNat ≤ 1000 := fun k hk => by
          unfold cntP okP at *
          split at hk
          · rename_i h
            rw [if_pos h]
            simp only [Bool.and_eq_true, decide_eq_true_eq] at h
            omega
          · omega
        have hrest : ∀ (D : Nat) (X : World), WA.heap.size ≤ D → X.heap[D]? = some (.deferred (some [])) → Row X g 2 #[.int .i64 (sumP A m.toNat (cntP A m) : Nat)] → Row X (g + 1) 2 #[.int .i64 (leastP A m.toNat (cntP A m))] → Row X (g + 1 + 1) 2 #[.int .i64 (mostP A m.toNat (cntP A m))] → Row X (g + 1 + 1 + 1) 3 #[.int .i64 (cntP A m : Nat)] → Same (fun k => k < WA.heap.size ∧ ¬ (g ≤ k ∧ k ≤ g + 3)) WA X → Kc { tmps := T0, defers := { target := .collected D, args := #[] } :: [] } X := by
          intro D1 X1 hD1 hKD1 r27 r28 r29 r30 hs
          refine hKc _ _ ?_
          rw [hT0]
          clear hT0 HS hKc
          have hbX : Same (fun k => k < g) WA X1 := hs.mono fun k (hk : k < g) => ⟨by omega, by omega⟩
          have k5B := k5A.same hbX (by show q < g; omega)
          have k6B := k6A.same hbX (by show q + 1 < g; omega)
          have hLB : Below w.heap.size w X1 := hLwA.trans (hbX.mono fun k (hk : k < w.heap.size) => by show k < g; omega).below
          have hqD : q + 1 < D1 := by omega
          have c27 : X1.cell? ⟨g, 0, none⟩ = some (.int .i64 (sumP A m.toNat (cntP A m) : Nat)) := (r27.cell 0).trans rfl
          have c28 : X1.cell? ⟨g + 1, 0, none⟩ = some (.int .i64 (leastP A m.toNat (cntP A m))) := (r28.cell 0).trans rfl
          have c29 : X1.cell? ⟨g + 1 + 1, 0, none⟩ = some (.int .i64 (mostP A m.toNat (cntP A m))) := (r29.cell 0).trans rfl
          have c30 : X1.cell? ⟨g + 1 + 1 + 1, 0, none⟩ = some (.int .i64 (cntP A m : Nat)) := (r30.cell 0).trans rfl
          have c5 : X1.cell? ⟨q, 0, none⟩ = some (.int .i64 (A : Int)) := (k5B.cell 0).trans rfl
          have hA1 := amtsA hAb
          have htx := text_any (A : Int) X1 (HT.out.later hLB)
          rw [show textS (A : Int) = (coinT A, 0) by unfold textS; rw [hA1]; rfl] at htx
          have hps := fun W (h : Later w W) => parse_any (coinT A) W (HT.out.later h) (by have := coin_len hAb; omega)
          rw [parse_coin hAb] at hps
          have hp2 := fun W (h : Later w W) => parse_any s W (HT.out.later h) (by omega)
          have hKX := hKD1
          clear hs hbX k5A k6A k27A k28A k29A k30A ka km hKD1 hb1
          go_upto_region 29 with fail
          refine name_frame fun T0 hT0 => ?_
          rename_i Kd hKd Ke hKe
          have hrest4 : ∀ (u200 u201 u202 u203 u204 u205 u206 u207 u208 u209 u210 u211 u212 u213 u214 u215 u216 u217 u218 u219 u220 u221 : Value), Kd { tmps := ((((((((((((((((((((((T0).setIfInBounds 200 u200).setIfInBounds 201 u201).setIfInBounds 202 u202).setIfInBounds 203 u203).setIfInBounds 204 u204).setIfInBounds 205 u205).setIfInBounds 206 u206).setIfInBounds 207 u207).setIfInBounds 208 u208).setIfInBounds 209 u209).setIfInBounds 210 u210).setIfInBounds 211 u211).setIfInBounds 212 u212).setIfInBounds 213 u213).setIfInBounds 214 u214).setIfInBounds 215 u215).setIfInBounds 216 u216).setIfInBounds 217 u217).setIfInBounds 218 u218).setIfInBounds 219 u219).setIfInBounds 220 u220).setIfInBounds 221 u221, defers := [{ target := .collected D1, args := #[] }] } X1 := by
            intro u200 u201 u202 u203 u204 u205 u206 u207 u208 u209 u210 u211 u212 u213 u214 u215 u216 u217 u218 u219 u220 u221
            refine hKd _ _ ?_
            rw [hT0]
            simp only [List.setIfInBounds_toArray, List.set_cons_succ, List.set_cons_zero]
            clear hT0 hKd hKe r27 r28 r29 r30 c27 c28 c29 c30
            go_upto_region 35 with (first
              | (go_at_call 20; refine htx.mono ?_; clear htx; rintro e w2 ⟨rfl, hL2⟩; have hLc : Later X1 w2 := hL2; have hLB2 : Later w w2 := Later.step hLB hL2; clear hL2)
              | (go_at_call 22; refine (hps _ hLB2).mono ?_; clear hps; rintro e w3 ⟨rfl, hL3⟩; have hLd : Later X1 w3 := hLc.step hL3; have hLB3 : Later w w3 := hLB2.step hL3; have c53 : w3.cell? ⟨q, 0, none⟩ = some (.int .i64 (A : Int)) := ((k5B.later hLd).cell 0).trans rfl; clear hL3 hLc hLB2)
              | (go_at_call 15; refine (num5_any _ _).mono ?_; rintro e wb ⟨rfl, rfl⟩)
              | fail)
            rcases parse_or s with hps2 | ⟨v, hv, hsv, hps2⟩
            · rw [hps2] at hp2
              go_wp2_with (first
                | (go_at_call 22; refine (hp2 _ hLB3).mono ?_; clear hp2; rintro e w4 ⟨rfl, hL4⟩; have hLe : Later X1 w4 := hLd.step hL4; have hLB4 : Later w w4 := hLB3.step hL4; have k64 := k6B.later hLe)
                | (go_at_call 15; refine (num5_any _ _).mono ?_; rintro e wb ⟨rfl, rfl⟩)
                | (go_at_call 9; refine (hwk _ hLB4).mono ?_; clear hwk; rintro e w15 ⟨rfl, hL15⟩; have k615 := k64.later hL15; have c615 : w15.cell? ⟨q + 1, 0, none⟩ = some (.bool false) := (k615.cell 0).trans rfl; have f615 : w15.frozen? ⟨q + 1, 0, none⟩ = false := k615.frozen 0)
                | fail)
              have hfin := leaveX1 (q := q) hKX hLB k615 (hLe.step hL15) hqD hqw
              exact leaveM1 hfin.1 (by simp [results, Tryd.results8, go_sem, hfin.2.1]) (HΦ.out _ _ ⟨rfl, hfin.2.2⟩)
            · rw [hps2] at hp2
              have htv := fun W (h : Later w W) => text_any (v : Int) W (HT.out.later h)
              have hav := amtsA hv
              rw [show textS (v : Int) = (s, 0) by unfold textS; rw [hav, hsv]; rfl] at htv
              clear hav hv hsv
              go_wp2_with (first
                | (go_at_call 22; refine (hp2 _ hLB3).mono ?_; clear hp2; rintro e w4 ⟨rfl, hL4⟩; have hLe : Later X1 w4 := hLd.step hL4; have hLB4 : Later w w4 := hLB3.step hL4)
                | (go_at_call 15; refine (num5_any _ _).mono ?_; rintro e wb ⟨rfl, rfl⟩)
                | (go_at_call 20; refine (htv _ hLB4).mono ?_; clear htv; rintro e w5 ⟨rfl, hL5⟩; have hLf : Later X1 w5 := hLe.step hL5; have hLB5 : Later w w5 := hLB4.step hL5; have k65 := k6B.later hLf)
                | (go_at_call 9; refine (hwk _ hLB5).mono ?_; clear hwk; rintro e w15 ⟨rfl, hL15⟩; have k615 := k65.later hL15; have c615 : w15.cell? ⟨q + 1, 0, none⟩ = some (.bool false) := (k615.cell 0).trans rfl; have f615 : w15.frozen? ⟨q + 1, 0, none⟩ = false := k615.frozen 0)
                | fail)
              have hfin := leaveX1 (q := q) hKX hLB k615 (hLf.step hL15) hqD hqw
              exact leaveM1 hfin.1 (by simp [results, Tryd.results8, go_sem, hfin.2.1]) (HΦ.out _ _ ⟨rfl, hfin.2.2⟩)
          rw [hT0] at hrest4 ⊢
          simp only [List.setIfInBounds_toArray, List.set_cons_succ, List.set_cons_zero] at hrest4
          clear hT0 hKd
          have HR4 := Lib.hid hrest4
          clear hrest4 htx hps hp2 hwk
          by_cases hP : okP A m = true
          · have hcm : cntP A m = m.toNat := by unfold cntP; rw [hP]; rfl
            rw [hcm] at c27 c28 c29 c30
            unfold okP at hP
            simp only [Bool.and_eq_true, decide_eq_true_eq] at hP
            obtain ⟨M, rfl⟩ := Int.eq_ofNat_of_zero_le (show 0 ≤ m by omega)
            rw [show ((M : Int)).toNat = M from rfl] at c27 c28 c29 c30
            obtain ⟨j, rfl⟩ : ∃ j, M = j + 1 := ⟨M - 1, by omega⟩
            rw [sumP_all A (j + 1) (by omega)] at c27
            rw [show leastP A (j + 1) (j + 1) = ((partAt A (j + 1) j : Nat) : Int) from rfl] at c28
            rw [show mostP A (j + 1) (j + 1) = ((partAt A (j + 1) 0 : Nat) : Int) from rfl] at c29
            have hnear := part_near A (j + 1) j
            have hpl1 := part_le A (j + 1) j
            have hpl2 := part_le A (j + 1) 0
            have hMb1 : 1 ≤ j + 1 ∧ j + 1 ≤ 1000 := by omega
            generalize j + 1 = M at *
            generalize partAt A M j = lo at *
            generalize partAt A M 0 = hi at *
            have d1 : decide ((1 : Int) ≤ (M : Int)) = true := decide_eq_true (by omega)
            have d1' : decide (1 ≤ M) = true := decide_eq_true (by omega)
            have d2 : decide ((M : Int) ≤ 1000) = true := decide_eq_true (by omega)
            have d2' : decide (M ≤ 1000) = true := decide_eq_true (by omega)
            have hw : IntKind.i64.wrap ((hi : Int) - (lo : Int)) = (hi : Int) - (lo : Int) := IntWalk.i64_in _ (by omega)
            have d3 : decide ((1 : Int) < (hi : Int) - (lo : Int)) = false := decide_eq_false (by omega)
            clear hP hcm hnear hpl1 hpl2 hMb hMb1
            go_wp2_with fail
            exact HR4.out _ _ _ _ _ _ _ _ _ _ _ _ _ _ _ _ _ _ _ _ _ _
          · have hm : ¬ (1 ≤ m ∧ m ≤ 1000) := fun h => hP (by unfold okP; rw [hA1, decide_eq_true h.1, decide_eq_true h.2]; rfl)
            by_cases h1 : 1 ≤ m
            · have d1 : decide (1 ≤ m) = true := decide_eq_true h1
              have d2 : decide (m ≤ 1000) = false := decide_eq_false (fun h => hm ⟨h1, h⟩)
              go_wp2_with fail
              exact HR4.out _ _ _ _ _ _ _ _ _ _ _ _ _ _ _ _ _ _ _ _ _ _
            · have d1 : decide (1 ≤ m) = false := decide_eq_false h1
              go_wp2_with fail
              exact HR4.out _ _ _ _ _ _ _ _ _ _ _ _ _ _ _ _ _ _ _ _ _ _
        refine (wpIn_wide (n := 10)).1 ?_
        refine wpIn_range_W (α := Pt) (Kp := KeepD (fun b => (g ≤ b ∧ b ≤ g + 3) ∨ b = WA.heap.size + 1)) rfl (by omega) (gf := 41) (lb := #[.pointer (some ⟨g + 6, 0, none⟩), .pointer (some ⟨g + 6 + 1, 0, none⟩)]) (by rw [hT0]; rfl) trivial (enters_of Tryd.func41 (by kernel_rfl) rfl)
          HS.out (fun r h => h.elim) (fun h k => h.trans k) (fun x W' o => KeepD.put W' o (.inr rfl)) (Below.refl _ _) (fun _ => rfl)
          (fun pre X => pre.length ≤ cntP A m ∧ Row X g 2 #[.int .i64 (sumP A m.toNat pre.length : Nat)] ∧ Row X (g + 1) 2 #[.int .i64 (leastP A m.toNat pre.length)] ∧ Row X (g + 1 + 1) 2 #[.int .i64 (mostP A m.toNat pre.length)] ∧ Row X (g + 1 + 1 + 1) 3 #[.int .i64 (pre.length : Int)] ∧ Same (fun k => k < WA.heap.size ∧ ¬ (g ≤ k ∧ k ≤ g + 3)) WA X)
          (fun c pre X => False)
          (fun pre X Y ⟨h1, h2, h3, h4, h5, h6⟩ hs => ⟨h1, h2.same hs ⟨by omega, fun h => h⟩, h3.same hs ⟨by omega, fun h => h⟩, h4.same hs ⟨by omega, fun h => h⟩, h5.same hs ⟨by omega, fun h => h⟩, h6.trans (hs.mono fun k hk => ⟨hk.1, fun h => h⟩)⟩)
          (fun c pre X Y h _ => h)
          ⟨by simp, by simpa [sumP] using k27A, k28A, k29A, k30A, Same.refl _ _⟩
          (fun pre x a' X => a' = { tmps := ((T0.setIfInBounds 171 (.int .i64 x.i)).setIfInBounds 172 (.int .i64 x.x)).setIfInBounds 32 (.int .i64 x.x), defers := [] } ∧ pre.length < cntP A m ∧ x.i = pre.length ∧ x.x = partAt ((A : Int)).toNat m.toNat pre.length)
          (fun pre x a' X o h => h) ?assign ?body ?done ?stop
        case assign =>
          intro l0 pre x X K hXs hi hok hK
          have HK' := Lib.hid hK
          have HI := Lib.hid hi
          have HOK2 := Lib.hid hok
          clear hK hi hok
          have e89 : ((#[171, 172] : Array Tmp).zip (ptE x)).foldl (fun t (p, v) => t.setIfInBounds p v) T0 = (T0.setIfInBounds 171 (.int .i64 x.i)).setIfInBounds 172 (.int .i64 x.x) := by simp
          rw [e89, hT0]
          clear e89
          simp only [List.setIfInBounds_toArray, List.set_cons_succ, List.set_cons_zero]
          gi_wp2
          exact HK'.out _ _ (KeepsFrom.refl _ _) KeepD.refl HI.out ⟨by rw [hT0]; rfl, HOK2.out⟩
        case body =>
          rintro l0 pre x a' X hl hlo hXs ⟨h1, h2, h3, h4, h5, h6⟩ ⟨rfl, hki, hxi, hxx⟩
          have hplen : (pre ++ [x]).length = pre.length + 1 := by simp
          obtain ⟨k, hk⟩ : ∃ k, pre.length = k := ⟨_, rfl⟩
          rw [hk] at h1 h2 h3 h4 h5 hki hxi hxx hplen
          obtain ⟨hcm, hmm, hMa, hMz⟩ := hMb k hki
          rw [show ((A : Int)).toNat = A from rfl] at hxx
          obtain ⟨xi, xx⟩ := x
          simp only at hxi hxx
          subst hxi
          have hkM : k < m.toNat := by rw [← hcm]; exact hki
          have hS1 := sumP_succ A m.toNat k
          have hSle := sumP_le A m.toNat (k + 1) (by omega)
          have hmost := most_succ A m.toNat k
          have hL1 : leastP A m.toNat (k + 1) = ((partAt A m.toNat k : Nat) : Int) := rfl
          have hLc : leastP A m.toNat k < 0 ∨ (0 ≤ leastP A m.toNat k ∧ ((partAt A m.toNat k : Nat) : Int) ≤ leastP A m.toNat k) := by
            cases k with
            | zero => exact .inl (by show (-1 : Int) < 0; decide)
            | succ j =>
              have := part_down A m.toNat j
              refine .inr ⟨?_, ?_⟩
              · show (0 : Int) ≤ ((partAt A m.toNat j : Nat) : Int); omega
              · show _ ≤ ((partAt A m.toNat j : Nat) : Int); omega
          have hM1 : ∃ M1, mostP A m.toNat (k + 1) = M1 := ⟨_, rfl⟩
          obtain ⟨M1, hM1⟩ := hM1
          rw [hM1] at hmost
          have hmx : max (mostP A m.toNat k) ((partAt A m.toNat k : Nat) : Int) = M1 := by rw [← hmost]; split <;> omega
          clear hmost
          have HPL := Lib.hid hplen
          generalize mostP A m.toNat k = M0 at *
          generalize leastP A m.toNat k = L0 at *
          obtain ⟨S1, hS1'⟩ : ∃ S1, sumP A m.toNat (k + 1) = S1 := ⟨_, rfl⟩
          rw [hS1'] at hS1 hSle
          generalize sumP A m.toNat k = S0 at *
          generalize partAt A m.toNat k = p at *
          subst hxx
          have HS1 := Lib.hid hS1'
          have HL1 := Lib.hid hL1
          have HM1 := Lib.hid hM1
          clear hplen hS1' hL1 hM1 hcm hmm hMa
          have hsum : (S0 : Int) + (p : Int) = (S1 : Int) := by omega
          have hw1 : IntKind.i64.wrap (S1 : Int) = (S1 : Int) := IntWalk.i64_in _ (by omega)
          have hw2 : IntKind.i64.wrap ((k : Int) + 1) = (k : Int) + 1 := IntWalk.i64_in _ (by omega)
          have e1 : decide ((p : Int) < 0) = false := decide_eq_false (by omega)
          have e2 : decide ((A : Int) < (S1 : Int)) = false := decide_eq_false (by omega)
          have e2' : decide (A < S1) = false := decide_eq_false (by omega)
          have e3 : decide ((1000 : Int) ≤ (k : Int)) = false := decide_eq_false (by omega)
          have e3' : decide (1000 ≤ k) = false := decide_eq_false (by omega)
          have fz27 : X.frozen? ⟨g, 0, none⟩ = false := h2.frozen 0
          have fz28 : X.frozen? ⟨g + 1, 0, none⟩ = false := h3.frozen 0
          have fz29 : X.frozen? ⟨g + 1 + 1, 0, none⟩ = false := h4.frozen 0
          have fz30 : X.frozen? ⟨g + 1 + 1 + 1, 0, none⟩ = false := h5.frozen 0
          have r27_0 := h2
          have r28_0 := h3
          have r29_0 := h4
          have r30_0 := h5
          have k5_0 := k5A.same h6 ⟨by have := HSZ.out; omega, by omega⟩
          rw [hT0]
          simp only [List.setIfInBounds_toArray, List.set_cons_succ, List.set_cons_zero]
          have HREST3 := Lib.hid hrest
          clear hT0 hrest hKc HS h2 h3 h4 h5 hS1
          by_cases hneg : L0 < 0
          · have dL : decide (L0 < 0) = true := decide_eq_true hneg
            have c27_0 : X.cell? ⟨g, 0, none⟩ = some (.int .i64 (S0 : Int)) := (r27_0.cell 0).trans rfl
            have c28_0 : X.cell? ⟨g + 1, 0, none⟩ = some (.int .i64 L0) := (r28_0.cell 0).trans rfl
            have c29_0 : X.cell? ⟨g + 1 + 1, 0, none⟩ = some (.int .i64 M0) := (r29_0.cell 0).trans rfl
            have c30_0 : X.cell? ⟨g + 1 + 1 + 1, 0, none⟩ = some (.int .i64 (k : Int)) := (r30_0.cell 0).trans rfl
            have c5_0 : X.cell? ⟨q, 0, none⟩ = some (.int .i64 (A : Int)) := (k5_0.cell 0).trans rfl
            have r27_1 := r27_0.set 0 (.int .i64 (S1 : Int))
            have r28_1 := r28_0.far (p := ⟨g, 0, none⟩) (by show g + 1 ≠ g; omega) (.int .i64 (S1 : Int))
            have r29_1 := r29_0.far (p := ⟨g, 0, none⟩) (by show g + 1 + 1 ≠ g; omega) (.int .i64 (S1 : Int))
            have r30_1 := r30_0.far (p := ⟨g, 0, none⟩) (by show g + 1 + 1 + 1 ≠ g; omega) (.int .i64 (S1 : Int))
            have k5_1 := k5_0.far (p := ⟨g, 0, none⟩) (by show q ≠ g; omega) (.int .i64 (S1 : Int))
            have c27_1 : (X.setCell ⟨g, 0, none⟩ (.int .i64 (S1 : Int))).cell? ⟨g, 0, none⟩ = some (.int .i64 (S1 : Int)) := (r27_1.cell 0).trans rfl
            have c28_1 : (X.setCell ⟨g, 0, none⟩ (.int .i64 (S1 : Int))).cell? ⟨g + 1, 0, none⟩ = some (.int .i64 L0) := (r28_1.cell 0).trans rfl
            have c29_1 : (X.setCell ⟨g, 0, none⟩ (.int .i64 (S1 : Int))).cell? ⟨g + 1 + 1, 0, none⟩ = some (.int .i64 M0) := (r29_1.cell 0).trans rfl
            have c30_1 : (X.setCell ⟨g, 0, none⟩ (.int .i64 (S1 : Int))).cell? ⟨g + 1 + 1 + 1, 0, none⟩ = some (.int .i64 (k : Int)) := (r30_1.cell 0).trans rfl
            have c5_1 : (X.setCell ⟨g, 0, none⟩ (.int .i64 (S1 : Int))).cell? ⟨q, 0, none⟩ = some (.int .i64 (A : Int)) := (k5_1.cell 0).trans rfl
            have r27_2 := r27_1.far (p := ⟨g + 1, 0, none⟩) (by show g ≠ g + 1; omega) (.int .i64 (p : Int))
            have r28_2 := r28_1.set 0 (.int .i64 (p : Int))
            have r29_2 := r29_1.far (p := ⟨g + 1, 0, none⟩) (by show g + 1 + 1 ≠ g + 1; omega) (.int .i64 (p : Int))
            have r30_2 := r30_1.far (p := ⟨g + 1, 0, none⟩) (by show g + 1 + 1 + 1 ≠ g + 1; omega) (.int .i64 (p : Int))
            have k5_2 := k5_1.far (p := ⟨g + 1, 0, none⟩) (by show q ≠ g + 1; omega) (.int .i64 (p : Int))
            have c27_2 : ((X.setCell ⟨g, 0, none⟩ (.int .i64 (S1 : Int))).setCell ⟨g + 1, 0, none⟩ (.int .i64 (p : Int))).cell? ⟨g, 0, none⟩ = some (.int .i64 (S1 : Int)) := (r27_2.cell 0).trans rfl
            have c28_2 : ((X.setCell ⟨g, 0, none⟩ (.int .i64 (S1 : Int))).setCell ⟨g + 1, 0, none⟩ (.int .i64 (p : Int))).cell? ⟨g + 1, 0, none⟩ = some (.int .i64 (p : Int)) := (r28_2.cell 0).trans rfl
            have c29_2 : ((X.setCell ⟨g, 0, none⟩ (.int .i64 (S1 : Int))).setCell ⟨g + 1, 0, none⟩ (.int .i64 (p : Int))).cell? ⟨g + 1 + 1, 0, none⟩ = some (.int .i64 M0) := (r29_2.cell 0).trans rfl
            have c30_2 : ((X.setCell ⟨g, 0, none⟩ (.int .i64 (S1 : Int))).setCell ⟨g + 1, 0, none⟩ (.int .i64 (p : Int))).cell? ⟨g + 1 + 1 + 1, 0, none⟩ = some (.int .i64 (k : Int)) := (r30_2.cell 0).trans rfl
            have c5_2 : ((X.setCell ⟨g, 0, none⟩ (.int .i64 (S1 : Int))).setCell ⟨g + 1, 0, none⟩ (.int .i64 (p : Int))).cell? ⟨q, 0, none⟩ = some (.int .i64 (A : Int)) := (k5_2.cell 0).trans rfl
            have r27_3 := r27_2.far (p := ⟨g + 1 + 1, 0, none⟩) (by show g ≠ g + 1 + 1; omega) (.int .i64 M1)
            have r28_3 := r28_2.far (p := ⟨g + 1 + 1, 0, none⟩) (by show g + 1 ≠ g + 1 + 1; omega) (.int .i64 M1)
            have r29_3 := r29_2.set 0 (.int .i64 M1)
            have r30_3 := r30_2.far (p := ⟨g + 1 + 1, 0, none⟩) (by show g + 1 + 1 + 1 ≠ g + 1 + 1; omega) (.int .i64 M1)
            have k5_3 := k5_2.far (p := ⟨g + 1 + 1, 0, none⟩) (by show q ≠ g + 1 + 1; omega) (.int .i64 M1)
            have c27_3 : (((X.setCell ⟨g, 0, none⟩ (.int .i64 (S1 : Int))).setCell ⟨g + 1, 0, none⟩ (.int .i64 (p : Int))).setCell ⟨g + 1 + 1, 0, none⟩ (.int .i64 M1)).cell? ⟨g, 0, none⟩ = some (.int .i64 (S1 : Int)) := (r27_3.cell 0).trans rfl
            have c28_3 : (((X.setCell ⟨g, 0, none⟩ (.int .i64 (S1 : Int))).setCell ⟨g + 1, 0, none⟩ (.int .i64 (p : Int))).setCell ⟨g + 1 + 1, 0, none⟩ (.int .i64 M1)).cell? ⟨g + 1, 0, none⟩ = some (.int .i64 (p : Int)) := (r28_3.cell 0).trans rfl
            have c29_3 : (((X.setCell ⟨g, 0, none⟩ (.int .i64 (S1 : Int))).setCell ⟨g + 1, 0, none⟩ (.int .i64 (p : Int))).setCell ⟨g + 1 + 1, 0, none⟩ (.int .i64 M1)).cell? ⟨g + 1 + 1, 0, none⟩ = some (.int .i64 M1) := (r29_3.cell 0).trans rfl
            have c30_3 : (((X.setCell ⟨g, 0, none⟩ (.int .i64 (S1 : Int))).setCell ⟨g + 1, 0, none⟩ (.int .i64 (p : Int))).setCell ⟨g + 1 + 1, 0, none⟩ (.int .i64 M1)).cell? ⟨g + 1 + 1 + 1, 0, none⟩ = some (.int .i64 (k : Int)) := (r30_3.cell 0).trans rfl
            have c5_3 : (((X.setCell ⟨g, 0, none⟩ (.int .i64 (S1 : Int))).setCell ⟨g + 1, 0, none⟩ (.int .i64 (p : Int))).setCell ⟨g + 1 + 1, 0, none⟩ (.int .i64 M1)).cell? ⟨q, 0, none⟩ = some (.int .i64 (A : Int)) := (k5_3.cell 0).trans rfl
            have r27_4 := r27_3.far (p := ⟨g + 1 + 1 + 1, 0, none⟩) (by show g ≠ g + 1 + 1 + 1; omega) (.int .i64 ((k : Int) + 1))
            have r28_4 := r28_3.far (p := ⟨g + 1 + 1 + 1, 0, none⟩) (by show g + 1 ≠ g + 1 + 1 + 1; omega) (.int .i64 ((k : Int) + 1))
            have r29_4 := r29_3.far (p := ⟨g + 1 + 1 + 1, 0, none⟩) (by show g + 1 + 1 ≠ g + 1 + 1 + 1; omega) (.int .i64 ((k : Int) + 1))
            have r30_4 := r30_3.set 0 (.int .i64 ((k : Int) + 1))
            have k5_4 := k5_3.far (p := ⟨g + 1 + 1 + 1, 0, none⟩) (by show q ≠ g + 1 + 1 + 1; omega) (.int .i64 ((k : Int) + 1))
            have hkD : KeepD (fun b => (g ≤ b ∧ b ≤ g + 3) ∨ b = WA.heap.size + 1) (⟨(k : Int), (p : Int)⟩ : Pt) X ((((X.setCell ⟨g, 0, none⟩ (.int .i64 (S1 : Int))).setCell ⟨g + 1, 0, none⟩ (.int .i64 (p : Int))).setCell ⟨g + 1 + 1, 0, none⟩ (.int .i64 M1)).setCell ⟨g + 1 + 1 + 1, 0, none⟩ (.int .i64 ((k : Int) + 1))) := ((((KeepD.refl).trans (KeepD.set X ⟨g, 0, none⟩ (.int .i64 (S1 : Int)) (.inl ⟨by show g ≤ g; omega, by show g ≤ g + 3; omega⟩))).trans (KeepD.set (X.setCell ⟨g, 0, none⟩ (.int .i64 (S1 : Int))) ⟨g + 1, 0, none⟩ (.int .i64 (p : Int)) (.inl ⟨by show g ≤ g + 1; omega, by show g + 1 ≤ g + 3; omega⟩))).trans (KeepD.set ((X.setCell ⟨g, 0, none⟩ (.int .i64 (S1 : Int))).setCell ⟨g + 1, 0, none⟩ (.int .i64 (p : Int))) ⟨g + 1 + 1, 0, none⟩ (.int .i64 M1) (.inl ⟨by show g ≤ g + 1 + 1; omega, by show g + 1 + 1 ≤ g + 3; omega⟩))).trans (KeepD.set (((X.setCell ⟨g, 0, none⟩ (.int .i64 (S1 : Int))).setCell ⟨g + 1, 0, none⟩ (.int .i64 (p : Int))).setCell ⟨g + 1 + 1, 0, none⟩ (.int .i64 M1)) ⟨g + 1 + 1 + 1, 0, none⟩ (.int .i64 ((k : Int) + 1)) (.inl ⟨by show g ≤ g + 1 + 1 + 1; omega, by show g + 1 + 1 + 1 ≤ g + 3; omega⟩))
            have hkd2 : KeepD (fun b => g ≤ b ∧ b ≤ g + 3) (⟨(k : Int), (p : Int)⟩ : Pt) X ((((X.setCell ⟨g, 0, none⟩ (.int .i64 (S1 : Int))).setCell ⟨g + 1, 0, none⟩ (.int .i64 (p : Int))).setCell ⟨g + 1 + 1, 0, none⟩ (.int .i64 M1)).setCell ⟨g + 1 + 1 + 1, 0, none⟩ (.int .i64 ((k : Int) + 1))) := ((((KeepD.refl).trans (KeepD.set X ⟨g, 0, none⟩ (.int .i64 (S1 : Int)) (⟨by show g ≤ g; omega, by show g ≤ g + 3; omega⟩))).trans (KeepD.set (X.setCell ⟨g, 0, none⟩ (.int .i64 (S1 : Int))) ⟨g + 1, 0, none⟩ (.int .i64 (p : Int)) (⟨by show g ≤ g + 1; omega, by show g + 1 ≤ g + 3; omega⟩))).trans (KeepD.set ((X.setCell ⟨g, 0, none⟩ (.int .i64 (S1 : Int))).setCell ⟨g + 1, 0, none⟩ (.int .i64 (p : Int))) ⟨g + 1 + 1, 0, none⟩ (.int .i64 M1) (⟨by show g ≤ g + 1 + 1; omega, by show g + 1 + 1 ≤ g + 3; omega⟩))).trans (KeepD.set (((X.setCell ⟨g, 0, none⟩ (.int .i64 (S1 : Int))).setCell ⟨g + 1, 0, none⟩ (.int .i64 (p : Int))).setCell ⟨g + 1 + 1, 0, none⟩ (.int .i64 M1)) ⟨g + 1 + 1 + 1, 0, none⟩ (.int .i64 ((k : Int) + 1)) (⟨by show g ≤ g + 1 + 1 + 1; omega, by show g + 1 + 1 + 1 ≤ g + 3; omega⟩))
            have hkf := hkd2.from (B := WA.heap.size) (fun b h => by omega)
            have hsame : Same (fun k => k < WA.heap.size ∧ ¬ (g ≤ k ∧ k ≤ g + 3)) WA ((((X.setCell ⟨g, 0, none⟩ (.int .i64 (S1 : Int))).setCell ⟨g + 1, 0, none⟩ (.int .i64 (p : Int))).setCell ⟨g + 1 + 1, 0, none⟩ (.int .i64 M1)).setCell ⟨g + 1 + 1 + 1, 0, none⟩ (.int .i64 ((k : Int) + 1))) := ((((h6).trans ((Same.set X ⟨g, 0, none⟩ (.int .i64 (S1 : Int))).mono fun j hj => fun (e : j = g) => hj.2 (by omega))).trans ((Same.set (X.setCell ⟨g, 0, none⟩ (.int .i64 (S1 : Int))) ⟨g + 1, 0, none⟩ (.int .i64 (p : Int))).mono fun j hj => fun (e : j = g + 1) => hj.2 (by omega))).trans ((Same.set ((X.setCell ⟨g, 0, none⟩ (.int .i64 (S1 : Int))).setCell ⟨g + 1, 0, none⟩ (.int .i64 (p : Int))) ⟨g + 1 + 1, 0, none⟩ (.int .i64 M1)).mono fun j hj => fun (e : j = g + 1 + 1) => hj.2 (by omega))).trans ((Same.set (((X.setCell ⟨g, 0, none⟩ (.int .i64 (S1 : Int))).setCell ⟨g + 1, 0, none⟩ (.int .i64 (p : Int))).setCell ⟨g + 1 + 1, 0, none⟩ (.int .i64 M1)) ⟨g + 1 + 1 + 1, 0, none⟩ (.int .i64 ((k : Int) + 1))).mono fun j hj => fun (e : j = g + 1 + 1 + 1) => hj.2 (by omega))
            have HFIN := Lib.hid (And.intro hkf (And.intro hkD (And.intro r27_4 (And.intro r28_4 (And.intro r29_4 (And.intro r30_4 hsame))))))
            clear hkf hkD hkd2 hsame h6
            clear r27_0 r28_0 r29_0 r30_0 k5_0
            clear r27_1 r28_1 r29_1 r30_1 k5_1
            clear r27_2 r28_2 r29_2 r30_2 k5_2
            clear r27_3 r28_3 r29_3 r30_3 k5_3
            clear r27_4 r28_4 r29_4 r30_4 k5_4
            gi_wp2_with fail
            obtain ⟨z1, z2, z3, z4, z5, z6, z7⟩ := HFIN.out
            exact ⟨z1, z2, by rw [HPL.out]; exact hki, by rw [HPL.out, HS1.out]; exact z3, by rw [HPL.out, HL1.out]; exact z4, by rw [HPL.out, HM1.out]; exact z5, by rw [HPL.out]; exact z6, z7.mono (fun j hj => ⟨hj.1, by have := hj.2; omega⟩)⟩
          · have dL : decide (L0 < 0) = false := decide_eq_false hneg
            have hpL : (p : Int) ≤ L0 := by omega
            by_cases hlt : (p : Int) < L0
            · have dp : decide ((p : Int) < L0) = true := decide_eq_true hlt
              have c27_0 : X.cell? ⟨g, 0, none⟩ = some (.int .i64 (S0 : Int)) := (r27_0.cell 0).trans rfl
              have c28_0 : X.cell? ⟨g + 1, 0, none⟩ = some (.int .i64 L0) := (r28_0.cell 0).trans rfl
              have c29_0 : X.cell? ⟨g + 1 + 1, 0, none⟩ = some (.int .i64 M0) := (r29_0.cell 0).trans rfl
              have c30_0 : X.cell? ⟨g + 1 + 1 + 1, 0, none⟩ = some (.int .i64 (k : Int)) := (r30_0.cell 0).trans rfl
              have c5_0 : X.cell? ⟨q, 0, none⟩ = some (.int .i64 (A : Int)) := (k5_0.cell 0).trans rfl
              have r27_1 := r27_0.set 0 (.int .i64 (S1 : Int))
              have r28_1 := r28_0.far (p := ⟨g, 0, none⟩) (by show g + 1 ≠ g; omega) (.int .i64 (S1 : Int))
              have r29_1 := r29_0.far (p := ⟨g, 0, none⟩) (by show g + 1 + 1 ≠ g; omega) (.int .i64 (S1 : Int))
              have r30_1 := r30_0.far (p := ⟨g, 0, none⟩) (by show g + 1 + 1 + 1 ≠ g; omega) (.int .i64 (S1 : Int))
              have k5_1 := k5_0.far (p := ⟨g, 0, none⟩) (by show q ≠ g; omega) (.int .i64 (S1 : Int))
              have c27_1 : (X.setCell ⟨g, 0, none⟩ (.int .i64 (S1 : Int))).cell? ⟨g, 0, none⟩ = some (.int .i64 (S1 : Int)) := (r27_1.cell 0).trans rfl
              have c28_1 : (X.setCell ⟨g, 0, none⟩ (.int .i64 (S1 : Int))).cell? ⟨g + 1, 0, none⟩ = some (.int .i64 L0) := (r28_1.cell 0).trans rfl
              have c29_1 : (X.setCell ⟨g, 0, none⟩ (.int .i64 (S1 : Int))).cell? ⟨g + 1 + 1, 0, none⟩ = some (.int .i64 M0) := (r29_1.cell 0).trans rfl
              have c30_1 : (X.setCell ⟨g, 0, none⟩ (.int .i64 (S1 : Int))).cell? ⟨g + 1 + 1 + 1, 0, none⟩ = some (.int .i64 (k : Int)) := (r30_1.cell 0).trans rfl
              have c5_1 : (X.setCell ⟨g, 0, none⟩ (.int .i64 (S1 : Int))).cell? ⟨q, 0, none⟩ = some (.int .i64 (A : Int)) := (k5_1.cell 0).trans rfl
              have r27_2 := r27_1.far (p := ⟨g + 1, 0, none⟩) (by show g ≠ g + 1; omega) (.int .i64 (p : Int))
              have r28_2 := r28_1.set 0 (.int .i64 (p : Int))
              have r29_2 := r29_1.far (p := ⟨g + 1, 0, none⟩) (by show g + 1 + 1 ≠ g + 1; omega) (.int .i64 (p : Int))
              have r30_2 := r30_1.far (p := ⟨g + 1, 0, none⟩) (by show g + 1 + 1 + 1 ≠ g + 1; omega) (.int .i64 (p : Int))
              have k5_2 := k5_1.far (p := ⟨g + 1, 0, none⟩) (by show q ≠ g + 1; omega) (.int .i64 (p : Int))
              have c27_2 : ((X.setCell ⟨g, 0, none⟩ (.int .i64 (S1 : Int))).setCell ⟨g + 1, 0, none⟩ (.int .i64 (p : Int))).cell? ⟨g, 0, none⟩ = some (.int .i64 (S1 : Int)) := (r27_2.cell 0).trans rfl
              have c28_2 : ((X.setCell ⟨g, 0, none⟩ (.int .i64 (S1 : Int))).setCell ⟨g + 1, 0, none⟩ (.int .i64 (p : Int))).cell? ⟨g + 1, 0, none⟩ = some (.int .i64 (p : Int)) := (r28_2.cell 0).trans rfl
              have c29_2 : ((X.setCell ⟨g, 0, none⟩ (.int .i64 (S1 : Int))).setCell ⟨g + 1, 0, none⟩ (.int .i64 (p : Int))).cell? ⟨g + 1 + 1, 0, none⟩ = some (.int .i64 M0) := (r29_2.cell 0).trans rfl
              have c30_2 : ((X.setCell ⟨g, 0, none⟩ (.int .i64 (S1 : Int))).setCell ⟨g + 1, 0, none⟩ (.int .i64 (p : Int))).cell? ⟨g + 1 + 1 + 1, 0, none⟩ = some (.int .i64 (k : Int)) := (r30_2.cell 0).trans rfl
              have c5_2 : ((X.setCell ⟨g, 0, none⟩ (.int .i64 (S1 : Int))).setCell ⟨g + 1, 0, none⟩ (.int .i64 (p : Int))).cell? ⟨q, 0, none⟩ = some (.int .i64 (A : Int)) := (k5_2.cell 0).trans rfl
              have r27_3 := r27_2.far (p := ⟨g + 1 + 1, 0, none⟩) (by show g ≠ g + 1 + 1; omega) (.int .i64 M1)
              have r28_3 := r28_2.far (p := ⟨g + 1 + 1, 0, none⟩) (by show g + 1 ≠ g + 1 + 1; omega) (.int .i64 M1)
              have r29_3 := r29_2.set 0 (.int .i64 M1)
              have r30_3 := r30_2.far (p := ⟨g + 1 + 1, 0, none⟩) (by show g + 1 + 1 + 1 ≠ g + 1 + 1; omega) (.int .i64 M1)
              have k5_3 := k5_2.far (p := ⟨g + 1 + 1, 0, none⟩) (by show q ≠ g + 1 + 1; omega) (.int .i64 M1)
              have c27_3 : (((X.setCell ⟨g, 0, none⟩ (.int .i64 (S1 : Int))).setCell ⟨g + 1, 0, none⟩ (.int .i64 (p : Int))).setCell ⟨g + 1 + 1, 0, none⟩ (.int .i64 M1)).cell? ⟨g, 0, none⟩ = some (.int .i64 (S1 : Int)) := (r27_3.cell 0).trans rfl
              have c28_3 : (((X.setCell ⟨g, 0, none⟩ (.int .i64 (S1 : Int))).setCell ⟨g + 1, 0, none⟩ (.int .i64 (p : Int))).setCell ⟨g + 1 + 1, 0, none⟩ (.int .i64 M1)).cell? ⟨g + 1, 0, none⟩ = some (.int .i64 (p : Int)) := (r28_3.cell 0).trans rfl
              have c29_3 : (((X.setCell ⟨g, 0, none⟩ (.int .i64 (S1 : Int))).setCell ⟨g + 1, 0, none⟩ (.int .i64 (p : Int))).setCell ⟨g + 1 + 1, 0, none⟩ (.int .i64 M1)).cell? ⟨g + 1 + 1, 0, none⟩ = some (.int .i64 M1) := (r29_3.cell 0).trans rfl
              have c30_3 : (((X.setCell ⟨g, 0, none⟩ (.int .i64 (S1 : Int))).setCell ⟨g + 1, 0, none⟩ (.int .i64 (p : Int))).setCell ⟨g + 1 + 1, 0, none⟩ (.int .i64 M1)).cell? ⟨g + 1 + 1 + 1, 0, none⟩ = some (.int .i64 (k : Int)) := (r30_3.cell 0).trans rfl
              have c5_3 : (((X.setCell ⟨g, 0, none⟩ (.int .i64 (S1 : Int))).setCell ⟨g + 1, 0, none⟩ (.int .i64 (p : Int))).setCell ⟨g + 1 + 1, 0, none⟩ (.int .i64 M1)).cell? ⟨q, 0, none⟩ = some (.int .i64 (A : Int)) := (k5_3.cell 0).trans rfl
              have r27_4 := r27_3.far (p := ⟨g + 1 + 1 + 1, 0, none⟩) (by show g ≠ g + 1 + 1 + 1; omega) (.int .i64 ((k : Int) + 1))
              have r28_4 := r28_3.far (p := ⟨g + 1 + 1 + 1, 0, none⟩) (by show g + 1 ≠ g + 1 + 1 + 1; omega) (.int .i64 ((k : Int) + 1))
              have r29_4 := r29_3.far (p := ⟨g + 1 + 1 + 1, 0, none⟩) (by show g + 1 + 1 ≠ g + 1 + 1 + 1; omega) (.int .i64 ((k : Int) + 1))
              have r30_4 := r30_3.set 0 (.int .i64 ((k : Int) + 1))
              have k5_4 := k5_3.far (p := ⟨g + 1 + 1 + 1, 0, none⟩) (by show q ≠ g + 1 + 1 + 1; omega) (.int .i64 ((k : Int) + 1))
              have hkD : KeepD (fun b => (g ≤ b ∧ b ≤ g + 3) ∨ b = WA.heap.size + 1) (⟨(k : Int), (p : Int)⟩ : Pt) X ((((X.setCell ⟨g, 0, none⟩ (.int .i64 (S1 : Int))).setCell ⟨g + 1, 0, none⟩ (.int .i64 (p : Int))).setCell ⟨g + 1 + 1, 0, none⟩ (.int .i64 M1)).setCell ⟨g + 1 + 1 + 1, 0, none⟩ (.int .i64 ((k : Int) + 1))) := ((((KeepD.refl).trans (KeepD.set X ⟨g, 0, none⟩ (.int .i64 (S1 : Int)) (.inl ⟨by show g ≤ g; omega, by show g ≤ g + 3; omega⟩))).trans (KeepD.set (X.setCell ⟨g, 0, none⟩ (.int .i64 (S1 : Int))) ⟨g + 1, 0, none⟩ (.int .i64 (p : Int)) (.inl ⟨by show g ≤ g + 1; omega, by show g + 1 ≤ g + 3; omega⟩))).trans (KeepD.set ((X.setCell ⟨g, 0, none⟩ (.int .i64 (S1 : Int))).setCell ⟨g + 1, 0, none⟩ (.int .i64 (p : Int))) ⟨g + 1 + 1, 0, none⟩ (.int .i64 M1) (.inl ⟨by show g ≤ g + 1 + 1; omega, by show g + 1 + 1 ≤ g + 3; omega⟩))).trans (KeepD.set (((X.setCell ⟨g, 0, none⟩ (.int .i64 (S1 : Int))).setCell ⟨g + 1, 0, none⟩ (.int .i64 (p : Int))).setCell ⟨g + 1 + 1, 0, none⟩ (.int .i64 M1)) ⟨g + 1 + 1 + 1, 0, none⟩ (.int .i64 ((k : Int) + 1)) (.inl ⟨by show g ≤ g + 1 + 1 + 1; omega, by show g + 1 + 1 + 1 ≤ g + 3; omega⟩))
              have hkd2 : KeepD (fun b => g ≤ b ∧ b ≤ g + 3) (⟨(k : Int), (p : Int)⟩ : Pt) X ((((X.setCell ⟨g, 0, none⟩ (.int .i64 (S1 : Int))).setCell ⟨g + 1, 0, none⟩ (.int .i64 (p : Int))).setCell ⟨g + 1 + 1, 0, none⟩ (.int .i64 M1)).setCell ⟨g + 1 + 1 + 1, 0, none⟩ (.int .i64 ((k : Int) + 1))) := ((((KeepD.refl).trans (KeepD.set X ⟨g, 0, none⟩ (.int .i64 (S1 : Int)) (⟨by show g ≤ g; omega, by show g ≤ g + 3; omega⟩))).trans (KeepD.set (X.setCell ⟨g, 0, none⟩ (.int .i64 (S1 : Int))) ⟨g + 1, 0, none⟩ (.int .i64 (p : Int)) (⟨by show g ≤ g + 1; omega, by show g + 1 ≤ g + 3; omega⟩))).trans (KeepD.set ((X.setCell ⟨g, 0, none⟩ (.int .i64 (S1 : Int))).setCell ⟨g + 1, 0, none⟩ (.int .i64 (p : Int))) ⟨g + 1 + 1, 0, none⟩ (.int .i64 M1) (⟨by show g ≤ g + 1 + 1; omega, by show g + 1 + 1 ≤ g + 3; omega⟩))).trans (KeepD.set (((X.setCell ⟨g, 0, none⟩ (.int .i64 (S1 : Int))).setCell ⟨g + 1, 0, none⟩ (.int .i64 (p : Int))).setCell ⟨g + 1 + 1, 0, none⟩ (.int .i64 M1)) ⟨g + 1 + 1 + 1, 0, none⟩ (.int .i64 ((k : Int) + 1)) (⟨by show g ≤ g + 1 + 1 + 1; omega, by show g + 1 + 1 + 1 ≤ g + 3; omega⟩))
              have hkf := hkd2.from (B := WA.heap.size) (fun b h => by omega)
              have hsame : Same (fun k => k < WA.heap.size ∧ ¬ (g ≤ k ∧ k ≤ g + 3)) WA ((((X.setCell ⟨g, 0, none⟩ (.int .i64 (S1 : Int))).setCell ⟨g + 1, 0, none⟩ (.int .i64 (p : Int))).setCell ⟨g + 1 + 1, 0, none⟩ (.int .i64 M1)).setCell ⟨g + 1 + 1 + 1, 0, none⟩ (.int .i64 ((k : Int) + 1))) := ((((h6).trans ((Same.set X ⟨g, 0, none⟩ (.int .i64 (S1 : Int))).mono fun j hj => fun (e : j = g) => hj.2 (by omega))).trans ((Same.set (X.setCell ⟨g, 0, none⟩ (.int .i64 (S1 : Int))) ⟨g + 1, 0, none⟩ (.int .i64 (p : Int))).mono fun j hj => fun (e : j = g + 1) => hj.2 (by omega))).trans ((Same.set ((X.setCell ⟨g, 0, none⟩ (.int .i64 (S1 : Int))).setCell ⟨g + 1, 0, none⟩ (.int .i64 (p : Int))) ⟨g + 1 + 1, 0, none⟩ (.int .i64 M1)).mono fun j hj => fun (e : j = g + 1 + 1) => hj.2 (by omega))).trans ((Same.set (((X.setCell ⟨g, 0, none⟩ (.int .i64 (S1 : Int))).setCell ⟨g + 1, 0, none⟩ (.int .i64 (p : Int))).setCell ⟨g + 1 + 1, 0, none⟩ (.int .i64 M1)) ⟨g + 1 + 1 + 1, 0, none⟩ (.int .i64 ((k : Int) + 1))).mono fun j hj => fun (e : j = g + 1 + 1 + 1) => hj.2 (by omega))
              have HFIN := Lib.hid (And.intro hkf (And.intro hkD (And.intro r27_4 (And.intro r28_4 (And.intro r29_4 (And.intro r30_4 hsame))))))
              clear hkf hkD hkd2 hsame h6
              clear r27_0 r28_0 r29_0 r30_0 k5_0
              clear r27_1 r28_1 r29_1 r30_1 k5_1
              clear r27_2 r28_2 r29_2 r30_2 k5_2
              clear r27_3 r28_3 r29_3 r30_3 k5_3
              clear r27_4 r28_4 r29_4 r30_4 k5_4
              gi_wp2_with fail
              obtain ⟨z1, z2, z3, z4, z5, z6, z7⟩ := HFIN.out
              exact ⟨z1, z2, by rw [HPL.out]; exact hki, by rw [HPL.out, HS1.out]; exact z3, by rw [HPL.out, HL1.out]; exact z4, by rw [HPL.out, HM1.out]; exact z5, by rw [HPL.out]; exact z6, z7.mono (fun j hj => ⟨hj.1, by have := hj.2; omega⟩)⟩
            · have dp : decide ((p : Int) < (p : Int)) = false := decide_eq_false (by omega)
              have dp2 : decide (p < p) = false := decide_eq_false (by omega)
              obtain rfl : L0 = (p : Int) := by omega
              have c27_0 : X.cell? ⟨g, 0, none⟩ = some (.int .i64 (S0 : Int)) := (r27_0.cell 0).trans rfl
              have c28_0 : X.cell? ⟨g + 1, 0, none⟩ = some (.int .i64 (p : Int)) := (r28_0.cell 0).trans rfl
              have c29_0 : X.cell? ⟨g + 1 + 1, 0, none⟩ = some (.int .i64 M0) := (r29_0.cell 0).trans rfl
              have c30_0 : X.cell? ⟨g + 1 + 1 + 1, 0, none⟩ = some (.int .i64 (k : Int)) := (r30_0.cell 0).trans rfl
              have c5_0 : X.cell? ⟨q, 0, none⟩ = some (.int .i64 (A : Int)) := (k5_0.cell 0).trans rfl
              have r27_1 := r27_0.set 0 (.int .i64 (S1 : Int))
              have r28_1 := r28_0.far (p := ⟨g, 0, none⟩) (by show g + 1 ≠ g; omega) (.int .i64 (S1 : Int))
              have r29_1 := r29_0.far (p := ⟨g, 0, none⟩) (by show g + 1 + 1 ≠ g; omega) (.int .i64 (S1 : Int))
              have r30_1 := r30_0.far (p := ⟨g, 0, none⟩) (by show g + 1 + 1 + 1 ≠ g; omega) (.int .i64 (S1 : Int))
              have k5_1 := k5_0.far (p := ⟨g, 0, none⟩) (by show q ≠ g; omega) (.int .i64 (S1 : Int))
              have c27_1 : (X.setCell ⟨g, 0, none⟩ (.int .i64 (S1 : Int))).cell? ⟨g, 0, none⟩ = some (.int .i64 (S1 : Int)) := (r27_1.cell 0).trans rfl
              have c28_1 : (X.setCell ⟨g, 0, none⟩ (.int .i64 (S1 : Int))).cell? ⟨g + 1, 0, none⟩ = some (.int .i64 (p : Int)) := (r28_1.cell 0).trans rfl
              have c29_1 : (X.setCell ⟨g, 0, none⟩ (.int .i64 (S1 : Int))).cell? ⟨g + 1 + 1, 0, none⟩ = some (.int .i64 M0) := (r29_1.cell 0).trans rfl
              have c30_1 : (X.setCell ⟨g, 0, none⟩ (.int .i64 (S1 : Int))).cell? ⟨g + 1 + 1 + 1, 0, none⟩ = some (.int .i64 (k : Int)) := (r30_1.cell 0).trans rfl
              have c5_1 : (X.setCell ⟨g, 0, none⟩ (.int .i64 (S1 : Int))).cell? ⟨q, 0, none⟩ = some (.int .i64 (A : Int)) := (k5_1.cell 0).trans rfl
              have r27_2 := r27_1.far (p := ⟨g + 1 + 1, 0, none⟩) (by show g ≠ g + 1 + 1; omega) (.int .i64 M1)
              have r28_2 := r28_1.far (p := ⟨g + 1 + 1, 0, none⟩) (by show g + 1 ≠ g + 1 + 1; omega) (.int .i64 M1)
              have r29_2 := r29_1.set 0 (.int .i64 M1)
              have r30_2 := r30_1.far (p := ⟨g + 1 + 1, 0, none⟩) (by show g + 1 + 1 + 1 ≠ g + 1 + 1; omega) (.int .i64 M1)
              have k5_2 := k5_1.far (p := ⟨g + 1 + 1, 0, none⟩) (by show q ≠ g + 1 + 1; omega) (.int .i64 M1)
              have c27_2 : ((X.setCell ⟨g, 0, none⟩ (.int .i64 (S1 : Int))).setCell ⟨g + 1 + 1, 0, none⟩ (.int .i64 M1)).cell? ⟨g, 0, none⟩ = some (.int .i64 (S1 : Int)) := (r27_2.cell 0).trans rfl
              have c28_2 : ((X.setCell ⟨g, 0, none⟩ (.int .i64 (S1 : Int))).setCell ⟨g + 1 + 1, 0, none⟩ (.int .i64 M1)).cell? ⟨g + 1, 0, none⟩ = some (.int .i64 (p : Int)) := (r28_2.cell 0).trans rfl
              have c29_2 : ((X.setCell ⟨g, 0, none⟩ (.int .i64 (S1 : Int))).setCell ⟨g + 1 + 1, 0, none⟩ (.int .i64 M1)).cell? ⟨g + 1 + 1, 0, none⟩ = some (.int .i64 M1) := (r29_2.cell 0).trans rfl
              have c30_2 : ((X.setCell ⟨g, 0, none⟩ (.int .i64 (S1 : Int))).setCell ⟨g + 1 + 1, 0, none⟩ (.int .i64 M1)).cell? ⟨g + 1 + 1 + 1, 0, none⟩ = some (.int .i64 (k : Int)) := (r30_2.cell 0).trans rfl
              have c5_2 : ((X.setCell ⟨g, 0, none⟩ (.int .i64 (S1 : Int))).setCell ⟨g + 1 + 1, 0, none⟩ (.int .i64 M1)).cell? ⟨q, 0, none⟩ = some (.int .i64 (A : Int)) := (k5_2.cell 0).trans rfl
              have r27_3 := r27_2.far (p := ⟨g + 1 + 1 + 1, 0, none⟩) (by show g ≠ g + 1 + 1 + 1; omega) (.int .i64 ((k : Int) + 1))
              have r28_3 := r28_2.far (p := ⟨g + 1 + 1 + 1, 0, none⟩) (by show g + 1 ≠ g + 1 + 1 + 1; omega) (.int .i64 ((k : Int) + 1))
              have r29_3 := r29_2.far (p := ⟨g + 1 + 1 + 1, 0, none⟩) (by show g + 1 + 1 ≠ g + 1 + 1 + 1; omega) (.int .i64 ((k : Int) + 1))
              have r30_3 := r30_2.set 0 (.int .i64 ((k : Int) + 1))
              have k5_3 := k5_2.far (p := ⟨g + 1 + 1 + 1, 0, none⟩) (by show q ≠ g + 1 + 1 + 1; omega) (.int .i64 ((k : Int) + 1))
              have hkD : KeepD (fun b => (g ≤ b ∧ b ≤ g + 3) ∨ b = WA.heap.size + 1) (⟨(k : Int), (p : Int)⟩ : Pt) X (((X.setCell ⟨g, 0, none⟩ (.int .i64 (S1 : Int))).setCell ⟨g + 1 + 1, 0, none⟩ (.int .i64 M1)).setCell ⟨g + 1 + 1 + 1, 0, none⟩ (.int .i64 ((k : Int) + 1))) := (((KeepD.refl).trans (KeepD.set X ⟨g, 0, none⟩ (.int .i64 (S1 : Int)) (.inl ⟨by show g ≤ g; omega, by show g ≤ g + 3; omega⟩))).trans (KeepD.set (X.setCell ⟨g, 0, none⟩ (.int .i64 (S1 : Int))) ⟨g + 1 + 1, 0, none⟩ (.int .i64 M1) (.inl ⟨by show g ≤ g + 1 + 1; omega, by show g + 1 + 1 ≤ g + 3; omega⟩))).trans (KeepD.set ((X.setCell ⟨g, 0, none⟩ (.int .i64 (S1 : Int))).setCell ⟨g + 1 + 1, 0, none⟩ (.int .i64 M1)) ⟨g + 1 + 1 + 1, 0, none⟩ (.int .i64 ((k : Int) + 1)) (.inl ⟨by show g ≤ g + 1 + 1 + 1; omega, by show g + 1 + 1 + 1 ≤ g + 3; omega⟩))
              have hkd2 : KeepD (fun b => g ≤ b ∧ b ≤ g + 3) (⟨(k : Int), (p : Int)⟩ : Pt) X (((X.setCell ⟨g, 0, none⟩ (.int .i64 (S1 : Int))).setCell ⟨g + 1 + 1, 0, none⟩ (.int .i64 M1)).setCell ⟨g + 1 + 1 + 1, 0, none⟩ (.int .i64 ((k : Int) + 1))) := (((KeepD.refl).trans (KeepD.set X ⟨g, 0, none⟩ (.int .i64 (S1 : Int)) (⟨by show g ≤ g; omega, by show g ≤ g + 3; omega⟩))).trans (KeepD.set (X.setCell ⟨g, 0, none⟩ (.int .i64 (S1 : Int))) ⟨g + 1 + 1, 0, none⟩ (.int .i64 M1) (⟨by show g ≤ g + 1 + 1; omega, by show g + 1 + 1 ≤ g + 3; omega⟩))).trans (KeepD.set ((X.setCell ⟨g, 0, none⟩ (.int .i64 (S1 : Int))).setCell ⟨g + 1 + 1, 0, none⟩ (.int .i64 M1)) ⟨g + 1 + 1 + 1, 0, none⟩ (.int .i64 ((k : Int) + 1)) (⟨by show g ≤ g + 1 + 1 + 1; omega, by show g + 1 + 1 + 1 ≤ g + 3; omega⟩))
              have hkf := hkd2.from (B := WA.heap.size) (fun b h => by omega)
              have hsame : Same (fun k => k < WA.heap.size ∧ ¬ (g ≤ k ∧ k ≤ g + 3)) WA (((X.setCell ⟨g, 0, none⟩ (.int .i64 (S1 : Int))).setCell ⟨g + 1 + 1, 0, none⟩ (.int .i64 M1)).setCell ⟨g + 1 + 1 + 1, 0, none⟩ (.int .i64 ((k : Int) + 1))) := (((h6).trans ((Same.set X ⟨g, 0, none⟩ (.int .i64 (S1 : Int))).mono fun j hj => fun (e : j = g) => hj.2 (by omega))).trans ((Same.set (X.setCell ⟨g, 0, none⟩ (.int .i64 (S1 : Int))) ⟨g + 1 + 1, 0, none⟩ (.int .i64 M1)).mono fun j hj => fun (e : j = g + 1 + 1) => hj.2 (by omega))).trans ((Same.set ((X.setCell ⟨g, 0, none⟩ (.int .i64 (S1 : Int))).setCell ⟨g + 1 + 1, 0, none⟩ (.int .i64 M1)) ⟨g + 1 + 1 + 1, 0, none⟩ (.int .i64 ((k : Int) + 1))).mono fun j hj => fun (e : j = g + 1 + 1 + 1) => hj.2 (by omega))
              have HFIN := Lib.hid (And.intro hkf (And.intro hkD (And.intro r27_3 (And.intro r28_3 (And.intro r29_3 (And.intro r30_3 hsame))))))
              clear hkf hkD hkd2 hsame h6
              clear r27_0 r28_0 r29_0 r30_0 k5_0
              clear r27_1 r28_1 r29_1 r30_1 k5_1
              clear r27_2 r28_2 r29_2 r30_2 k5_2
              clear r27_3 r28_3 r29_3 r30_3 k5_3
              gi_wp2_with fail
              obtain ⟨z1, z2, z3, z4, z5, z6, z7⟩ := HFIN.out
              exact ⟨z1, z2, by rw [HPL.out]; exact hki, by rw [HPL.out, HS1.out]; exact z3, by rw [HPL.out, HL1.out]; exact z4, by rw [HPL.out, HM1.out]; exact z5, by rw [HPL.out]; exact z6, z7.mono (fun j hj => ⟨hj.1, by have := hj.2; omega⟩)⟩
        case done =>
          rintro D0 ys X hD hS ⟨h1, h2, h3, h4, h5, h6⟩ hK
          have hyK : ys.length = cntP A m := hS
          rw [hyK] at h2 h3 h4 h5
          exact hrest D0 X hD hK h2 h3 h4 h5 h6
        case stop =>
          exact fun _ _ _ _ _ _ h _ => h.elim
      rw [hT0] at hrest2 ⊢
      simp only [List.setIfInBounds_toArray, List.set_cons_succ, List.set_cons_zero] at hrest2
      clear hT0 hKa
      have HREST2 := Lib.hid hrest2
      clear hrest2
      have c5X : X.cell? ⟨q, 0, none⟩ = some (.int .i64 a) := (k5X.cell 0).trans rfl
      by_cases h1 : 0 ≤ one
      case neg =>
        have d1 : decide (0 ≤ one) = false := decide_eq_false h1
        go_wp2_with fail
        exact HREST2.out _ _ _ _ _ _ _ _ _ _ _ _ _ _ _ _ _ _ _ _ _ _ _ _ _ _ _ _ _ _ _ _ _ _ _ _ _ _ _ _ _ _ _ _ _ _ _ _ _ _ _ _ _ _ _ _ _ _ _ _ _ _ _ _ _ _ _ _ _ _ _ _ hLX k5X k6X
      have d1 : decide (0 ≤ one) = true := decide_eq_true h1
      by_cases h2 : 0 ≤ two
      case neg =>
        have d2 : decide (0 ≤ two) = false := decide_eq_false h2
        go_wp2_with fail
        exact HREST2.out _ _ _ _ _ _ _ _ _ _ _ _ _ _ _ _ _ _ _ _ _ _ _ _ _ _ _ _ _ _ _ _ _ _ _ _ _ _ _ _ _ _ _ _ _ _ _ _ _ _ _ _ _ _ _ _ _ _ _ _ _ _ _ _ _ _ _ _ _ _ _ _ hLX k5X k6X
      have d2 : decide (0 ≤ two) = true := decide_eq_true h2
      by_cases h3 : one ≤ 1000000
      case neg =>
        have d3 : decide (one ≤ 1000000) = false := decide_eq_false h3
        go_wp2_with fail
        exact HREST2.out _ _ _ _ _ _ _ _ _ _ _ _ _ _ _ _ _ _ _ _ _ _ _ _ _ _ _ _ _ _ _ _ _ _ _ _ _ _ _ _ _ _ _ _ _ _ _ _ _ _ _ _ _ _ _ _ _ _ _ _ _ _ _ _ _ _ _ _ _ _ _ _ hLX k5X k6X
      have d3 : decide (one ≤ 1000000) = true := decide_eq_true h3
      have hw : IntKind.i64.wrap (1000000 - one) = 1000000 - one := IntWalk.i64_in _ (by omega)
      by_cases h4 : two ≤ 1000000 - one
      case neg =>
        have d4 : decide (two ≤ 1000000 - one) = false := decide_eq_false h4
        go_wp2_with fail
        exact HREST2.out _ _ _ _ _ _ _ _ _ _ _ _ _ _ _ _ _ _ _ _ _ _ _ _ _ _ _ _ _ _ _ _ _ _ _ _ _ _ _ _ _ _ _ _ _ _ _ _ _ _ _ _ _ _ _ _ _ _ _ _ _ _ _ _ _ _ _ _ _ _ _ _ hLX k5X k6X
      have d4 : decide (two ≤ 1000000 - one) = true := decide_eq_true h4
      obtain ⟨A, rfl⟩ := Int.eq_ofNat_of_zero_le hb1.1
      obtain ⟨x, rfl⟩ := Int.eq_ofNat_of_zero_le h1
      obtain ⟨y, rfl⟩ := Int.eq_ofNat_of_zero_le h2
      have hxy : x + y ≤ 1000000 := by omega
      have hA := amtsA (show A ≤ 1125899906842624 by omega)
      have hs1 := fun W => share_any (A : Int) (x : Int) W
      rw [shareNat hA (show x ≤ 1000000 by omega)] at hs1
      have hs2 := fun W => share_any (A : Int) (y : Int) W
      rw [shareNat hA (show y ≤ 1000000 by omega)] at hs2
      have hs3 := fun W => share_any (A : Int) ((x + y : Nat) : Int) W
      rw [shareNat hA hxy] at hs3
      rw [show ((x + y : Nat) : Int) = (x : Int) + (y : Int) from Int.natCast_add x y] at hs3
      have hxw : IntKind.i64.wrap ((x : Int) + (y : Int)) = (x : Int) + (y : Int) := IntWalk.i64_in _ (by omega)
      obtain ⟨l1, l2, l3⟩ := share_laws A x y hxy
      generalize A * x / 1000000 = P at *
      generalize A * y / 1000000 = Q at *
      generalize A * (x + y) / 1000000 = R at *
      have hAb : A ≤ 1125899906842624 := by omega
      have w1' : IntKind.i64.wrap ((P : Int) + (Q : Int)) = (P : Int) + (Q : Int) := IntWalk.i64_in _ (by omega)
      have w2' : IntKind.i64.wrap ((R : Int) - 1) = (R : Int) - 1 := IntWalk.i64_in _ (by omega)
      have e1 : decide ((R : Int) < (P : Int) + (Q : Int)) = false := decide_eq_false (by omega)
      have e2 : decide ((P : Int) + (Q : Int) < (R : Int) - 1) = false := decide_eq_false (by omega)
      have e3 : decide ((A : Int) < (R : Int)) = false := decide_eq_false (by omega)
      have e3' : decide (A < R) = false := decide_eq_false (by omega)
      clear hA hb1 hb2 hb3 h1 h2 h3 h4 hxy l1 l2 l3 hAb
      go_wp2_with (first
        | (go_at_call 18; refine (hs1 _).mono ?_; clear hs1; rintro e w6 ⟨rfl, hL6⟩; have k56 := k5X.later hL6; have k66 := k6X.later hL6; have hL6' := hLX.step hL6; clear hLX hL6 k5X k6X c5X; have c56 : w6.cell? ⟨q, 0, none⟩ = some (.int .i64 (A : Int)) := (k56.cell 0).trans rfl)
        | (go_at_call 18; refine (hs2 _).mono ?_; clear hs2; rintro e w7 ⟨rfl, hL7⟩; have k57 := k56.later hL7; have k67 := k66.later hL7; have hL7' := hL6'.step hL7; clear hL6' hL7 k56 k66 c56; have c57 : w7.cell? ⟨q, 0, none⟩ = some (.int .i64 (A : Int)) := (k57.cell 0).trans rfl)
        | (go_at_call 18; refine (hs3 _).mono ?_; clear hs3; rintro e w8 ⟨rfl, hL8⟩; have k58 := k57.later hL8; have k68 := k67.later hL8; have hL8' := hL7'.step hL8; clear hL7' hL8 k57 k67 c57; have c58 : w8.cell? ⟨q, 0, none⟩ = some (.int .i64 (A : Int)) := (k58.cell 0).trans rfl)
        | (go_at_call 15; refine (num5_any _ _).mono ?_; rintro e wb ⟨rfl, rfl⟩)
        | fail)
      exact HREST2.out _ _ _ _ _ _ _ _ _ _ _ _ _ _ _ _ _ _ _ _ _ _ _ _ _ _ _ _ _ _ _ _ _ _ _ _ _ _ _ _ _ _ _ _ _ _ _ _ _ _ _ _ _ _ _ _ _ _ _ _ _ _ _ _ _ _ _ _ _ _ _ _ hL8' k58 k68
    rw [hT0] at hrest ⊢
    simp only [List.setIfInBounds_toArray, List.set_cons_succ, List.set_cons_zero] at hrest
    clear hT0 hK1
    have HREST := Lib.hid hrest
    clear hrest
    by_cases hsum : a + (b + c) ≤ 1125899906842624
    · have hxv : (x1, x2) = (a + (b + c), 0) := HX.out.symm.trans (add_ok HOK.out hsum)
      injection hxv with hx1 hx2
      subst hx1 hx2
      have hls := fun W => less_any (a + (b + c)) (some ⟨World.heap W |>.size, 0, none⟩) 2 2 [b, c] _ rfl (by omega) (rd2Z b c W)
      rw [less_back HOK.out hsum] at hls
      have c54 : w4.cell? ⟨q, 0, none⟩ = some (.int .i64 a) := (k54.cell 0).trans rfl
      go_wp2_with (first
        | (refine wpList_buildSl rfl 22 2 _ rfl #[(0, .int .i64 _), (1, .int .i64 _)] rfl (build2Z _ _ _) ?_)
        | (go_at_call 11; refine (hls _).mono ?_; clear hls; rintro e w5 ⟨rfl, hL5⟩; have k55 := (k54.alloc (.cells #[.int .i64 b, .int .i64 c] 2)).later hL5; have k65 := (k64.alloc (.cells #[.int .i64 b, .int .i64 c] 2)).later hL5; have hLd := (hLc.alloc _).step hL5; clear hLc hL5 k54 k64 c54; have c55 : w5.cell? ⟨q, 0, none⟩ = some (.int .i64 a) := (k55.cell 0).trans rfl)
        | (go_at_call 15; refine (num5_any _ _).mono ?_; rintro e wb ⟨rfl, rfl⟩)
        | fail)
      exact HREST.out _ _ _ _ _ _ _ _ _ _ _ _ _ _ _ _ _ _ _ _ _ _ hLd k55 k65
    · have hxv : (x1, x2) = (0, 150) := HX.out.symm.trans (add_no HOK.out hsum)
      injection hxv with hx1 hx2
      subst hx1 hx2
      go_wp2_with (first
        | (go_at_call 15; refine (num5_any _ _).mono ?_; rintro e wb ⟨rfl, rfl⟩)
        | fail)
      exact HREST.out _ _ _ _ _ _ _ _ _ _ _ _ _ _ _ _ _ _ _ _ _ _ hLc k54 k64
end Go.Proofs.YtcfhhljjknmniaaDoor
