/- money: fees and routes, as the document counts them. -/
import Derived.Test.YtcfhhljjknmniaaGreatDoorMz3
import Derived.Deep.SlicePairs
import Derived.Lib.SmallJoins
set_option linter.unusedVariables false
set_option linter.unusedSimpArgs false
namespace Go.Proofs.YtcfhhljjknmniaaGreatDoor
open Go.RowKit Go.ChangeShapes Go.WideShapes Go.ChangeAt
theorem open_fee {H : Type} {enc : TypeId × Value → H} {P : Program} {w : World} {r : Reach} {b0 base : Nat} {sp : Nat → Bool} {held : Bool} {t : TypeId} {f0 f1 : Field} {v : Value} {d : DataW H} {ps : List MemPlace} (hs : P.underlying t = some (.struct #[f0, f1])) (hone : Deep.oneCellFields P #[f0, f1] = true) (hC : P.cellsOf t = 2)
    (u0 : P.underlying f0.type = some (.int .i64)) (u1 : P.underlying f1.type = some (.int .i64)) (hv : Value.okWide P w r b0 t v) (h : DataW.Trod enc P w base sp held t v d ps) : ∃ x y : Int, v = feeV x y := by
  obtain ⟨v0, v1, y0, y1, n, rfl, _, _, h0, h1⟩ := Joins.open_agg2 hs hone hC hv h
  obtain ⟨z0, e1, _, _⟩ := DataW.trod_int u0 h0
  obtain ⟨z1, e2, _, _⟩ := DataW.trod_int u1 h1
  injection e1 with e1
  injection e2 with e2
  subst e1 e2
  exact ⟨z0, z1, rfl⟩
structure InFees (w : World) (A : Option Addr) (n c : Nat) (l : List Fee1) : Prop where
  len : l.length = n
  cap : n ≤ c
  most : c ≤ maxLen
  rd : RdV w A (feesC l)
theorem rdFees_of {w : World} {b o : Nat} : ∀ (fs : List Fee1), (∀ i (h : i < fs.length), w.cell? ⟨b, o + i * 2, none⟩ = some (numV fs[i].1) ∧ w.cell? ⟨b, o + i * 2 + 1, none⟩ = some (numV fs[i].2)) → RdV w (some ⟨b, o, none⟩) (feesC fs) := fun fs h _ =>
  ⟨b, o, rfl, fun j hj => by
    have hl := feesC_len fs
    have hk : j / 2 < fs.length := by omega
    obtain ⟨h1, h2⟩ := feesC_at fs (j / 2) hk
    obtain ⟨c1, c2⟩ := h (j / 2) hk
    rcases Nat.mod_two_eq_zero_or_one j with e | e
    · have ej : j = j / 2 * 2 := by omega
      rw [show o + j = o + j / 2 * 2 by omega, c1, ← h1, List.getElem?_eq_getElem (by omega)]
      congr 2
      exact ej.symm
    · have ej : j = j / 2 * 2 + 1 := by omega
      rw [show o + j = o + j / 2 * 2 + 1 by omega, c2, ← h2, List.getElem?_eq_getElem (by omega)]
      congr 2
      exact ej.symm⟩
theorem in_fees {H : Type} {enc : TypeId × Value → H} {P : Program} {w : World} {t e : TypeId} {held : Bool} {fuel len cap : Nat} {A : Option Addr} {x : DataW H × List MemPlace} {f0 f1 : Field} (ht : P.underlying t = some (.slice e)) (he : P.underlying e = some (.struct #[f0, f1])) (ce : P.cellsOf e = 2)
    (o0 : f0.offset = 0) (o1 : f1.offset = 1) (c0 : P.cellsOf f0.type = 1) (c1 : P.cellsOf f1.type = 1) (u0 : P.underlying f0.type = some (.int .i64)) (u1 : P.underlying f1.type = some (.int .i64))
    (h : DataW.trod enc P w 0 (fun _ => true) held fuel t [.slice A len cap] = some x) : ∃ fs, InFees w A len cap fs := by
  rcases Deep.open_slice_pairs ht he ce o0 o1 c0 c1 h with ⟨hcs, _⟩ | ⟨ad, l, c, m, k, V0, V1, D0, D1, P0, P1, hcs, _, hl, hm, hmm, _, hr⟩
  · injection hcs with h1
    injection h1 with h1 h2 h3
    subst h1 h2 h3
    exact ⟨[], rfl, Nat.le_refl _, Nat.zero_le _, RdV.nil _ _⟩
  · injection hcs with h1
    injection h1 with h1 h2 h3
    subst h1 h2 h3
    have hmc : m = cap := by rw [hmm]; rfl
    have each : ∀ i, ∃ s : Fee1, i < len → V0 i = numV s.1 ∧ V1 i = numV s.2 := fun i => by
      by_cases hi : i < len
      · obtain ⟨_, _, h3, h4⟩ := hr i (by omega)
        obtain ⟨s, e1, _, hs⟩ := DataW.trod_int u0 h3
        obtain ⟨z, e2, _, hz⟩ := DataW.trod_int u1 h4
        injection e1 with e1
        injection e2 with e2
        exact ⟨(s, z), fun _ => ⟨e1, e2⟩⟩
      · exact ⟨(0, 0), fun h => absurd h hi⟩
    obtain ⟨f, hf⟩ := Classical.axiomOfChoice each
    refine ⟨(List.range len).map f, by simp, hl, hm, ?_⟩
    by_cases h0 : 0 < len
    · obtain ⟨b, o, rfl⟩ : ∃ b o, ad = ⟨b, o, none⟩ := ⟨_, _, addr_none (show w.cell? ad = some _ from (hr 0 (by omega)).1)⟩
      refine rdFees_of _ fun i hi => ?_
      have hi' : i < len := by simpa using hi
      obtain ⟨h1, h2, _, _⟩ := hr i (by omega)
      obtain ⟨e1, e2⟩ := hf i hi'
      rw [addr_add] at h1 h2
      rw [e1] at h1
      rw [e2] at h2
      simp only [List.getElem_map, List.getElem_range]
      exact ⟨h1, by rw [Nat.add_assoc]; exact h2⟩
    · have : len = 0 := by omega
      subst this
      exact RdV.nil _ _
set_option maxRecDepth 100000 in
theorem refFee_any (b r : Int) (w : World) : Calls Tryz.prog 17 #[feeV b r] w fun e w' => e = .returned (.bool (amts [b] && okRate r)) ∧ Later w w' := by
  refine Calls.post fun Φ HΦ => ?_
  have hL0 := (Later.refl w).alloc (.cells #[.int .i64 b, .int .i64 r] 23)
  have h1 := fun W => right5_any b W
  have h2 := fun W => rate5_any r W
  rw [amts_one] at HΦ
  cases hb : bad maxAmt b with
  | true =>
    rw [hb] at h1 HΦ
    go_enter Tryz.func17, Tryz.ntmps17
    go_wp2_with (first
      | (go_at_call 18; refine (h1 _).mono ?_; clear h1; rintro e w1 ⟨rfl, rfl⟩)
      | fail)
    exact HΦ.out _ _ ⟨rfl, hL0⟩
  | false =>
    rw [hb] at h1 HΦ
    go_enter Tryz.func17, Tryz.ntmps17
    go_wp2_with (first
      | (go_at_call 18; refine (h1 _).mono ?_; clear h1; rintro e w1 ⟨rfl, rfl⟩)
      | (go_at_call 29; refine (h2 _).mono ?_; clear h2; rintro e w1 ⟨rfl, rfl⟩)
      | fail)
    exact HΦ.out _ _ ⟨rfl, hL0⟩
theorem share_ok {a r : Int} (h1 : amts [a] = true) (h2 : okRate r = true) : shareS a r = (a * r / 1000000, 0) := by simp [shareS, h1, h2]
set_option maxRecDepth 100000 in
theorem refTake_any (b r a : Int) (w : World) :
    Calls Tryz.prog 7 #[feeV b r, .int .i64 a] w fun e w' => e = .returned (.tuple #[.int .i64 (takeS b r a).1, .int .i64 (takeS b r a).2]) ∧ Later w w' := by
  refine Calls.post fun Φ HΦ => ?_
  have hL0 := (Later.refl w).alloc (.cells #[.int .i64 b, .int .i64 r] 23)
  have hf := fun W => refFee_any b r W
  have h1 := fun W => right5_any a W
  have hrow := Row.new w 23 #[.int .i64 b, .int .i64 r]
  simp only [← amts_one] at h1
  cases ha : amts [b] && okRate r with
  | false =>
    have hS : takeS b r a = (0, 2) := by unfold takeS; rw [ha]; rfl
    rw [hS] at HΦ
    rw [ha] at hf
    clear hrow
    go_enter Tryz.func7, Tryz.ntmps7
    go_wp2_with (first
      | (go_at_call 17; refine (hf _).mono ?_; clear hf; rintro e w1 ⟨rfl, hL1⟩)
      | fail)
    exact HΦ.out _ _ ⟨rfl, hL0.step hL1⟩
  | true =>
    rw [ha] at hf
    have hok : okRate r = true := by rw [Bool.and_eq_true] at ha; exact ha.2
    cases hm : amts [a] with
    | false =>
      have hs : shareS a r = (0, 2) := by simp [shareS, hm]
      have hS : takeS b r a = (0, 2) := by unfold takeS; rw [ha, hs]; rfl
      rw [hS] at HΦ
      rw [hm] at h1
      clear hrow
      go_enter Tryz.func7, Tryz.ntmps7
      go_wp2_with (first
        | (go_at_call 17; refine (hf _).mono ?_; clear hf; rintro e w1 ⟨rfl, hL1⟩)
        | (go_at_call 18; refine (h1 _).mono ?_; clear h1; rintro e w2 ⟨rfl, rfl⟩)
        | fail)
      exact HΦ.out _ _ ⟨rfl, hL0.step hL1⟩
    | true =>
      obtain ⟨s, hs'⟩ : ∃ s, a * r / 1000000 = s := ⟨_, rfl⟩
      have hs : shareS a r = (s, 0) := by rw [share_ok hm hok, hs']
      have hS : takeS b r a = addS [b, s] := by unfold takeS; rw [ha, hs]; rfl
      rw [hS] at HΦ
      rw [hm] at h1
      have hsh := fun W => refShare_any a r W
      rw [hs] at hsh
      have hadd := fun W => refAdd_any (some ⟨World.heap W |>.size, 0, none⟩) 2 2 [b, s] _ rfl (by omega) (rd2Z b s W)
      generalize addS [b, s] = q at *
      obtain ⟨q1, q2⟩ := q
      clear hok ha hs hm hs' hS
      go_enter Tryz.func7, Tryz.ntmps7
      go_wp2_with (first
        | (refine wpList_buildSl rfl 33 2 _ rfl #[(0, .int .i64 _), (1, .int .i64 _)] rfl (build2Z _ _ _) ?_)
        | (go_at_call 17; refine (hf _).mono ?_; clear hf; rintro e w1 ⟨rfl, hL1⟩; have c0 : w1.cell? ⟨w.heap.size, 0, none⟩ = some (.int .i64 b) := cell_later ((hrow.cell 0).trans rfl) hL1; have c1 : w1.cell? ⟨w.heap.size, 1, none⟩ = some (.int .i64 r) := cell_later ((hrow.cell 1).trans rfl) hL1; have hL2 := hL0.step hL1; clear hrow hL1 hL0)
        | (go_at_call 18; refine (h1 _).mono ?_; clear h1; rintro e w2 ⟨rfl, rfl⟩)
        | (go_at_call 19; refine (hsh _).mono ?_; clear hsh; rintro e w2 ⟨rfl, rfl⟩)
        | (go_at_call 20; refine (hadd _).mono ?_; clear hadd; rintro e w3 ⟨rfl, rfl⟩)
        | fail)
      exact HΦ.out _ _ ⟨rfl, hL2.alloc _⟩
set_option maxRecDepth 100000 in
theorem refSend_any (b r a : Int) (w : World) :
    Calls Tryz.prog 8 #[feeV b r, .int .i64 a] w fun e w' => e = .returned (.tuple #[.int .i64 (sendS b r a).1, .int .i64 (sendS b r a).2]) ∧ Later w w' := by
  refine Calls.post fun Φ HΦ => ?_
  have hL0 := (Later.refl w).alloc (.cells #[.int .i64 b, .int .i64 r] 23)
  have htk := fun W => refTake_any b r a W
  obtain ⟨t, ht⟩ : ∃ t, takeS b r a = t := ⟨_, rfl⟩
  obtain ⟨t1, t2⟩ := t
  simp only [ht] at htk
  by_cases h0 : t2 = 0
  · subst h0
    have hS : sendS b r a = addS [a, t1] := by unfold sendS; rw [ht]; rfl
    rw [hS] at HΦ
    have hadd := fun W => refAdd_any (some ⟨World.heap W |>.size, 0, none⟩) 2 2 [a, t1] _ rfl (by omega) (rd2Z a t1 W)
    generalize addS [a, t1] = q at *
    obtain ⟨q1, q2⟩ := q
    clear ht hS
    go_enter Tryz.func8, Tryz.ntmps8
    go_wp2_with (first
      | (refine wpList_buildSl rfl 33 2 _ rfl #[(0, .int .i64 _), (1, .int .i64 _)] rfl (build2Z _ _ _) ?_)
      | (go_at_call 7; refine (htk _).mono ?_; clear htk; rintro e w1 ⟨rfl, hL1⟩)
      | (go_at_call 20; refine (hadd _).mono ?_; clear hadd; rintro e w3 ⟨rfl, rfl⟩)
      | fail)
    exact HΦ.out _ _ ⟨rfl, (hL0.step hL1).alloc _⟩
  · have hS : sendS b r a = (0, t2) := by unfold sendS; rw [ht, if_neg h0]
    rw [hS] at HΦ
    have e1 : (t2 != 0) = true := by simpa using h0
    clear ht hS
    go_enter Tryz.func8, Tryz.ntmps8
    go_wp2_with (first
      | (go_at_call 7; refine (htk _).mono ?_; clear htk; rintro e w1 ⟨rfl, hL1⟩)
      | fail)
    exact HΦ.out _ _ ⟨rfl, hL0.step hL1⟩
set_option maxRecDepth 100000 in
theorem moneyFees_walk (b r a : Int) (wa : (Lit.int .i64 a).wf = true) (w : World) (hT : Tabs w) :
    Calls Tryz.prog 3 #[feeV b r, .int .i64 a] w fun e w' => e = .returned (.bool true) ∧ Below w.heap.size w w' := by
  refine Calls.post fun Φ HΦ => ?_
  have hL0 := (Later.refl w).alloc (.cells #[.int .i64 b, .int .i64 r] 23)
  have hrow := Row.new w 23 #[.int .i64 b, .int .i64 r]
  have h1 := fun W => take_fee b r a W
  have h2 := fun W => send_fee b r a W
  have h3 := fun W => refTake_any b r a W
  have h4 := fun W => refSend_any b r a W
  have h5 := fun W (h : Later w W) => works_yes W (hT.later h)
  clear hT wa
  generalize takeS b r a = s1 at *
  generalize sendS b r a = s2 at *
  obtain ⟨x1, y1⟩ := s1
  obtain ⟨x2, y2⟩ := s2
  go_enter Tryz.func3, Tryz.ntmps3
  go_wp2_with (first
    | (go_at_call 5; refine (h1 _).mono ?_; clear h1; rintro e w1 ⟨rfl, hL⟩; have hL1 := hL0.step hL; have hr1 := hrow.later hL; have c0 : w1.cell? ⟨w.heap.size, 0, none⟩ = some (.int .i64 b) := (hr1.cell 0).trans rfl; have c1 : w1.cell? ⟨w.heap.size, 1, none⟩ = some (.int .i64 r) := (hr1.cell 1).trans rfl; clear hL hL0 hrow)
    | (go_at_call 6; refine (h2 _).mono ?_; clear h2; rintro e w2 ⟨rfl, hL⟩; have hL2 := hL1.step hL; have hr2 := hr1.later hL; clear c0 c1; have c0 : w2.cell? ⟨w.heap.size, 0, none⟩ = some (.int .i64 b) := (hr2.cell 0).trans rfl; have c1 : w2.cell? ⟨w.heap.size, 1, none⟩ = some (.int .i64 r) := (hr2.cell 1).trans rfl; clear hL hL1 hr1)
    | (go_at_call 7; refine (h3 _).mono ?_; clear h3; rintro e w3 ⟨rfl, hL⟩; have hL3 := hL2.step hL; have hr3 := hr2.later hL; clear c0 c1; have c0 : w3.cell? ⟨w.heap.size, 0, none⟩ = some (.int .i64 b) := (hr3.cell 0).trans rfl; have c1 : w3.cell? ⟨w.heap.size, 1, none⟩ = some (.int .i64 r) := (hr3.cell 1).trans rfl; clear hL hL2 hr2)
    | (go_at_call 8; refine (h4 _).mono ?_; clear h4; rintro e w4 ⟨rfl, hL⟩; have hL4 := hL3.step hL; clear hL hL3 hr3 c0 c1)
    | (go_at_call 9; refine (num5_any _ _).mono ?_; rintro e wb ⟨rfl, rfl⟩)
    | (go_at_call 10; refine (h5 _ hL4).mono ?_; clear h5; rintro e w5 ⟨rfl, hL5⟩)
    | fail)
  exact HΦ.out _ _ ⟨rfl, hL4.step hL5⟩
end Go.Proofs.YtcfhhljjknmniaaGreatDoor
