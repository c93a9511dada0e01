/- money: a fee, and what is sent by it. -/
import Derived.Test.YtcfhhljjknmniaaDoorMm5
set_option linter.unusedVariables false
set_option linter.unusedSimpArgs false
namespace Go.Proofs.YtcfhhljjknmniaaDoor
open Go.RowKit
abbrev feeV (b r : Int) : Value := .agg #[.int .i64 b, .int .i64 r]
theorem amt_one (a : Int) : (![a].any (bad 1125899906842624)) = amts [a] := by simp [amts, maxAmt]
theorem rd1Z1 (b : Int) (w : World) (o : Obj) : RdV ((w.alloc o).alloc (.cells #[.int .i64 b] 2)) (some ⟨w.heap.size + 1, 0, none⟩) ([b].map numV) := by
  have := rd1Z b (w.alloc o)
  rwa [World.size_alloc] at this
theorem cell_later {w w' : World} {p : Addr} {v : Value} (h : w.cell? p = some v) (hL : Later w w') : w'.cell? p = some v := (World.cell?_of_block (hL.block _ (block_lt_of_cell h))).trans h
set_option maxRecDepth 100000 in
theorem right_any (b r : Int) (w : World) :
    Calls Tryd.prog 43 #[feeV b r] w fun e w' => e = .returned (.bool (amts [b] && okRate r)) ∧ Below w.heap.size w w' := by
  refine Calls.post fun Φ HΦ => ?_
  have hL0 := ((Later.refl w).alloc (.cells #[.int .i64 b, .int .i64 r] 78)).alloc (.cells #[.int .i64 b] 2)
  have hib := in_any 1125899906842624 (some ⟨w.heap.size + 1, 0, none⟩) 1 1 [b] _ rfl (by omega) (rd1Z1 b w (.cells #[.int .i64 b, .int .i64 r] 78))
  simp only [amt_one] at hib
  have hin := fun W => in_any 1000000 (some ⟨World.heap W |>.size, 0, none⟩) 1 1 [r] _ rfl (by omega) (rd1Z r W)
  simp only [rate_one] at hin
  have hrow : Row ((w.alloc (.cells #[.int .i64 b, .int .i64 r] 78)).alloc (.cells #[.int .i64 b] 2)) w.heap.size 78 #[.int .i64 b, .int .i64 r] := (Row.new w 78 _).alloc _
  cases ha : amts [b] with
  | false =>
    simp only [ha] at hib
    rw [ha, Bool.false_and] at HΦ
    clear hin hrow
    go_enter Tryd.func43, Tryd.ntmps43
    go_wp2_with (first
      | (refine wpList_buildSl rfl 22 1 _ rfl #[(0, .int .i64 _)] rfl (build1Z _ _) ?_)
      | (go_at_call 32; refine hib.mono ?_; clear hib; rintro e w1 ⟨rfl, hL1⟩)
      | fail)
    exact HΦ.out _ _ ⟨rfl, hL0.step hL1⟩
  | true =>
    simp only [ha] at hib
    rw [ha, Bool.true_and] at HΦ
    go_enter Tryd.func43, Tryd.ntmps43
    go_wp2_with (first
      | (refine wpList_buildSl rfl 22 1 _ rfl #[(0, .int .i64 _)] rfl (build1Z _ _) ?_)
      | (go_at_call 32; refine hib.mono ?_; clear hib; rintro e w1 ⟨rfl, hL1⟩; have hc1 : w1.cell? ⟨w.heap.size, 1, none⟩ = some (.int .i64 r) := cell_later ((hrow.cell 1).trans rfl) hL1; clear hrow)
      | (go_at_call 32; refine (hin _).mono ?_; clear hin; rintro e w2 ⟨rfl, hL2⟩)
      | fail)
    exact HΦ.out _ _ ⟨rfl, ((hL0.step hL1).step ((Later.refl w1).alloc _)).step hL2⟩
def takeS (b r a : Int) : Int × Int :=
  if amts [b] && okRate r then (if (shareS a r).2 = 0 then addS [b, (shareS a r).1] else (0, (shareS a r).2)) else (0, 2)
def sendS (b r a : Int) : Int × Int := if (takeS b r a).2 = 0 then addS [a, (takeS b r a).1] else (0, (takeS b r a).2)
theorem rd2Z1 (x y : Int) (w : World) (o : Obj) : RdV ((w.alloc o).alloc (.cells #[.int .i64 x, .int .i64 y] 2)) (some ⟨w.heap.size + 1, 0, none⟩) ([x, y].map numV) := by
  have := rd2Z x y (w.alloc o)
  rwa [World.size_alloc] at this
set_option maxRecDepth 100000 in
theorem take_fee (b r a : Int) (w : World) :
    Calls Tryd.prog 28 #[feeV b r, .int .i64 a] w fun e w' => e = .returned (.tuple #[.int .i64 (takeS b r a).1, .int .i64 (takeS b r a).2]) ∧ Below w.heap.size w w' := by
  refine Calls.post fun Φ HΦ => ?_
  have hL0 := ((Later.refl w).alloc (.cells #[.int .i64 b, .int .i64 r] 53)).alloc (.cells #[.int .i64 b, .int .i64 r] 78)
  cases ha : amts [b] && okRate r with
  | false =>
    have hS : takeS b r a = (0, 2) := by unfold takeS; rw [ha]; rfl
    rw [hS] at HΦ
    have hr := fun W => right_any b r W
    simp only [ha] at hr
    go_enter Tryd.func28, Tryd.ntmps28
    go_wp2_with (first
      | (go_at_call 43; refine (hr _).mono ?_; clear hr; rintro e w1 ⟨rfl, hL1⟩)
      | fail)
    exact HΦ.out _ _ ⟨rfl, hL0.step hL1⟩
  | true =>
    have hr := fun W => right_any b r W
    simp only [ha] at hr
    have hrow : Row ((w.alloc (.cells #[.int .i64 b, .int .i64 r] 53)).alloc (.cells #[.int .i64 b, .int .i64 r] 78)) (w.heap.size + 1) 78 #[.int .i64 b, .int .i64 r] := by
      have := Row.new (w.alloc (.cells #[.int .i64 b, .int .i64 r] 53)) 78 #[.int .i64 b, .int .i64 r]
      rwa [World.size_alloc] at this
    have hsh := fun W => share_any a r W
    have hok : okRate r = true := by rw [Bool.and_eq_true] at ha; exact ha.2
    cases hm : amts [a] with
    | false =>
      have hs : shareS a r = (0, 2) := by simp [shareS, hm]
      have hS : takeS b r a = (0, 2) := by unfold takeS; rw [ha, hs]; rfl
      rw [hS] at HΦ
      simp only [hs] at hsh
      clear hok ha hs hm
      go_enter Tryd.func28, Tryd.ntmps28
      go_wp2_with (first
        | (go_at_call 43; refine (hr _).mono ?_; clear hr; rintro e w1 ⟨rfl, hL1⟩; have hc1 : w1.cell? ⟨w.heap.size + 1, 1, none⟩ = some (.int .i64 r) := cell_later ((hrow.cell 1).trans rfl) hL1; have hL2 := hL0.step hL1; clear hrow hL1)
        | (go_at_call 18; refine (hsh _).mono ?_; clear hsh; rintro e w2 ⟨rfl, hL3⟩)
        | fail)
      exact HΦ.out _ _ ⟨rfl, hL2.step hL3⟩
    | true =>
      obtain ⟨s, hs'⟩ : ∃ s, a * r / 1000000 = s := ⟨_, rfl⟩
      have hs : shareS a r = (s, 0) := by simp [shareS, hm, hok, hs']
      have hS : takeS b r a = addS [b, s] := by unfold takeS; rw [ha, hs]; rfl
      rw [hS] at HΦ
      simp only [hs] at hsh
      have hadd := fun W => add_any (some ⟨World.heap W |>.size, 0, none⟩) 2 2 [b, s] _ rfl (by omega) (rd2Z b s W)
      obtain ⟨q, hq⟩ : ∃ q, addS [b, s] = q := ⟨_, rfl⟩
      obtain ⟨q1, q2⟩ := q
      simp only [hq] at hadd
      rw [hq] at HΦ
      clear hok ha hs hm hq hs'
      go_enter Tryd.func28, Tryd.ntmps28
      go_wp2_with (first
        | (refine wpList_buildSl rfl 22 2 _ rfl #[(0, .int .i64 _), (1, .int .i64 _)] rfl (build2Z _ _ _) ?_)
        | (go_at_call 43; refine (hr _).mono ?_; clear hr; rintro e w1 ⟨rfl, hL1⟩; have hc1 : w1.cell? ⟨w.heap.size + 1, 1, none⟩ = some (.int .i64 r) := cell_later ((hrow.cell 1).trans rfl) hL1; have hc0 : w1.cell? ⟨w.heap.size + 1, 0, none⟩ = some (.int .i64 b) := cell_later ((hrow.cell 0).trans rfl) hL1; have hL2 := hL0.step hL1; clear hrow hL1)
        | (go_at_call 18; refine (hsh _).mono ?_; clear hsh; rintro e w2 ⟨rfl, hL3⟩; have hd0 : w2.cell? ⟨w.heap.size + 1, 0, none⟩ = some (.int .i64 b) := cell_later hc0 hL3; clear hc0)
        | (go_at_call 10; refine (hadd _).mono ?_; clear hadd; rintro e w3 ⟨rfl, hL4⟩)
        | fail)
      exact HΦ.out _ _ ⟨rfl, ((hL2.step hL3).step ((Later.refl w2).alloc _)).step hL4⟩
set_option maxRecDepth 100000 in
theorem send_fee (b r a : Int) (w : World) :
    Calls Tryd.prog 29 #[feeV b r, .int .i64 a] w fun e w' => e = .returned (.tuple #[.int .i64 (sendS b r a).1, .int .i64 (sendS b r a).2]) ∧ Below w.heap.size w w' := by
  refine Calls.post fun Φ HΦ => ?_
  have hL0 := (Later.refl w).alloc (.cells #[.int .i64 b, .int .i64 r] 53)
  have htk := fun W => take_fee b r a W
  obtain ⟨t, ht⟩ : ∃ t, takeS b r a = t := ⟨_, rfl⟩
  obtain ⟨t1, t2⟩ := t
  simp only [ht] at htk
  by_cases h0 : t2 = 0
  · subst h0
    have hS : sendS b r a = addS [a, t1] := by unfold sendS; rw [ht]; rfl
    rw [hS] at HΦ
    have hadd := fun W => add_any (some ⟨World.heap W |>.size, 0, none⟩) 2 2 [a, t1] _ rfl (by omega) (rd2Z a t1 W)
    obtain ⟨q, hq⟩ : ∃ q, addS [a, t1] = q := ⟨_, rfl⟩
    obtain ⟨q1, q2⟩ := q
    simp only [hq] at hadd
    rw [hq] at HΦ
    clear ht hS hq
    go_enter Tryd.func29, Tryd.ntmps29
    go_wp2_with (first
      | (refine wpList_buildSl rfl 22 2 _ rfl #[(0, .int .i64 _), (1, .int .i64 _)] rfl (build2Z _ _ _) ?_)
      | (go_at_call 28; refine (htk _).mono ?_; clear htk; rintro e w1 ⟨rfl, hL1⟩)
      | (go_at_call 10; refine (hadd _).mono ?_; clear hadd; rintro e w3 ⟨rfl, hL4⟩)
      | fail)
    exact HΦ.out _ _ ⟨rfl, ((hL0.step hL1).step ((Later.refl w1).alloc _)).step hL4⟩
  · have hS : sendS b r a = (0, t2) := by unfold sendS; rw [ht, if_neg h0]
    rw [hS] at HΦ
    have e1 : (t2 != 0) = true := by simpa using h0
    clear ht hS
    go_enter Tryd.func29, Tryd.ntmps29
    go_wp2_with (first
      | (go_at_call 28; refine (htk _).mono ?_; clear htk; rintro e w1 ⟨rfl, hL1⟩)
      | fail)
    exact HΦ.out _ _ ⟨rfl, hL0.step hL1⟩
end Go.Proofs.YtcfhhljjknmniaaDoor
