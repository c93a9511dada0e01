/- Walks: the document's Split, Frame, Frames. -/
import Derived.Test.YtmipaacobioakaaWr42
set_option linter.unusedVariables false
set_option linter.unusedSimpArgs false
namespace Go.Proofs.Ytmipaacobioakaa
open Go.RowKit
set_option maxRecDepth 100000 in
set_option maxHeartbeats 1000000 in
theorem refSplit_any (A : Option Addr) (n c : Nat) (l : List UInt8) (w : World) (hn : l.length = n) (hc : n ≤ c) (hcm : c ≤ 9223372036854775807) (hnm : n ≤ 1099511627776) (hr : Rd w A l) :
    Calls Try.prog 31 #[.slice A n c] w fun e w' => ∃ A' c', e = .returned (.tuple #[.slice A' (Wr.splitR l).1.length c', .int .i64 (Wr.splitR l).2.1, .int .i64 (Wr.splitR l).2.2]) ∧ (∀ W, Rd W A l → Rd W A' (Wr.splitR l).1) ∧ Later w w' := by
  have hfi := refFirst_any A n c l w hn (by omega) hr
  obtain ⟨hf1, hf2, hf3⟩ := Wr.first_le l
  obtain ⟨R, hR⟩ : ∃ R, Wr.splitR l = R := ⟨_, rfl⟩
  have hp : Wr.piece l = (l.drop (Wr.first l).2.toNat).take (Wr.first l).1 := rfl
  rw [hR]
  unfold Wr.splitR at hR
  generalize Wr.piece l = p at *
  generalize Wr.first l = F at *
  obtain ⟨f, s⟩ := F
  simp only at hR hp hf1 hf2 hf3
  by_cases h0 : s = 0
  · rw [if_pos h0] at hR
    subst h0
    subst hR
    go_enter Try.func31, Try.ntmps31
    go_wp2_with (first
      | (go_at_call 62; refine hfi.mono ?_; clear hfi; rintro e w2 ⟨rfl, hb⟩)
      | fail)
    exact bodyPost_ret (results3 rfl _ _ rfl rfl rfl) rfl ⟨none, 0, rfl, fun _ _ => Rd.nil _ _, hb⟩
  · rw [if_neg h0] at hR
    have hd0 : (s == 0) = false := by simpa using h0
    by_cases h1 : s < 0 ∨ f < 4 ∨ 8196 < f
    · rw [if_pos h1] at hR
      subst hR
      by_cases a1 : s < 0
      · have d1 : decide (s < 0) = true := decide_eq_true a1
        go_enter Try.func31, Try.ntmps31
        go_wp2_with (first
          | (go_at_call 62; refine hfi.mono ?_; clear hfi; rintro e w2 ⟨rfl, hb⟩)
          | fail)
        exact bodyPost_ret (results3 rfl _ _ rfl rfl rfl) rfl ⟨none, 0, rfl, fun _ _ => Rd.nil _ _, hb⟩
      · have d1 : decide (s < 0) = false := decide_eq_false a1
        by_cases a2 : f < 4
        · have d2 : decide ((f : Int) < 4) = true := decide_eq_true (by omega)
          have d2' : decide (f < 4) = true := decide_eq_true (by omega)
          go_enter Try.func31, Try.ntmps31
          go_wp2_with (first
            | (go_at_call 62; refine hfi.mono ?_; clear hfi; rintro e w2 ⟨rfl, hb⟩)
            | fail)
          exact bodyPost_ret (results3 rfl _ _ rfl rfl rfl) rfl ⟨none, 0, rfl, fun _ _ => Rd.nil _ _, hb⟩
        · have d2 : decide ((f : Int) < 4) = false := decide_eq_false (by omega)
          have d2' : decide (f < 4) = false := decide_eq_false (by omega)
          have d3 : decide ((8196 : Int) < (f : Int)) = true := decide_eq_true (by omega)
          have d3' : decide (8196 < f) = true := decide_eq_true (by omega)
          go_enter Try.func31, Try.ntmps31
          go_wp2_with (first
            | (go_at_call 62; refine hfi.mono ?_; clear hfi; rintro e w2 ⟨rfl, hb⟩)
            | fail)
          exact bodyPost_ret (results3 rfl _ _ rfl rfl rfl) rfl ⟨none, 0, rfl, fun _ _ => Rd.nil _ _, hb⟩
    · rw [if_neg h1] at hR
      have a1 : ¬ s < 0 := fun h => h1 (.inl h)
      have a2 : ¬ f < 4 := fun h => h1 (.inr (.inl h))
      have a3 : ¬ 8196 < f := fun h => h1 (.inr (.inr h))
      obtain ⟨k, rfl⟩ : ∃ k : Nat, s = k := ⟨s.toNat, by omega⟩
      have d1 : decide ((k : Int) < 0) = false := decide_eq_false a1
      have d2 : decide ((f : Int) < 4) = false := decide_eq_false (by omega)
      have d2' : decide (f < 4) = false := decide_eq_false (by omega)
      have d3 : decide ((8196 : Int) < (f : Int)) = false := decide_eq_false (by omega)
      have d3' : decide (8196 < f) = false := decide_eq_false (by omega)
      rw [hn] at hR hf1
      clear h1 h0
      have hkn : k ≤ n := by omega
      have hsub : ((n : Int) - (k : Int)) = ((n - k : Nat) : Int) := by omega
      by_cases h2 : (n : Int) - (k : Int) < (f : Int)
      · rw [if_pos h2] at hR
        subst hR
        have d4 : decide ((n : Int) - (k : Int) < (f : Int)) = true := decide_eq_true h2
        go_enter Try.func31, Try.ntmps31
        go_wp2_with (first
          | (go_at_call 62; refine hfi.mono ?_; clear hfi; rintro e w2 ⟨rfl, hb⟩)
          | fail)
        exact bodyPost_ret (results3 rfl _ _ rfl rfl rfl) rfl ⟨none, 0, rfl, fun _ _ => Rd.nil _ _, hb⟩
      · rw [if_neg h2] at hR
        have d4 : decide ((n : Int) - (k : Int) < (f : Int)) = false := decide_eq_false h2
        have hkf : k + f ≤ n := by omega
        obtain ⟨D, hs1, hD, _⟩ := run_slice_piece (P := Try.prog) (t := 22) (U := 5) (A := A) (n := n) (ca := c) (k := k) (m := k + f) Try.underlying22 byteInfo (by omega) (by omega)
        have hpl : p.length = f := by rw [hp]; simp; omega
        have hDp : ∀ W, Rd W A l → Rd W D p := fun W h => by
          have := hD W l (by omega) h
          rw [show k + f - k = f by omega] at this
          rw [hp, Int.toNat_natCast]
          exact this
        rw [show k + f - k = f by omega] at hs1
        simp only [Int.natCast_add] at hs1
        have hop := fun W (h : Rd W A l) => refOpen_any D f (c - k) p W hpl (by omega) (by omega) (hDp W h)
        unfold RefOpenPost openE openB at hop
        unfold openB at hR
        cases hok : openOk p with
        | true =>
          simp only [hok, if_true] at hop hR
          obtain ⟨B, hB⟩ : ∃ B, List.take (p.length - 4) p = B := ⟨_, rfl⟩
          rw [hB] at hop hR
          clear hB
          subst hR
          go_enter Try.func31, Try.ntmps31
          go_wp2_with (first
            | (go_at_call 62; refine hfi.mono ?_; clear hfi; rintro e w2 ⟨rfl, hb⟩; have hr2 := hr.later hb)
            | (go_at_call 63; refine (hop _ hr2).mono ?_; clear hop; rintro e w3 ⟨A', c', rfl, hA', hb3⟩)
            | fail)
          exact bodyPost_ret (results3 rfl _ _ rfl rfl rfl) rfl ⟨A', c', rfl, fun W h => hA' W (hDp W h), hb.step hb3⟩
        | false =>
          simp only [hok, Bool.false_eq_true, if_false] at hop hR
          subst hR
          go_enter Try.func31, Try.ntmps31
          go_wp2_with (first
            | (go_at_call 62; refine hfi.mono ?_; clear hfi; rintro e w2 ⟨rfl, hb⟩; have hr2 := hr.later hb)
            | (go_at_call 63; refine (hop _ hr2).mono ?_; clear hop; rintro e w3 ⟨A', c', rfl, hA', hb3⟩)
            | fail)
          exact bodyPost_ret (results3 rfl _ _ rfl rfl rfl) rfl ⟨none, 0, rfl, fun _ _ => Rd.nil _ _, hb.step hb3⟩
theorem refFrame_any (A : Option Addr) (n c : Nat) (l : List UInt8) (w : World) (hn : l.length = n) (hm : n ≤ 1099511627776) (hr : Rd w A l) :
    Calls Try.prog 32 #[.slice A n c] w fun e w' => ∃ v, e = .returned v ∧ Own 5 w' w.heap.size v (Wr.frame l) ∧ Later w w' := by
  have hseal := refSeal_any A n c l w hn hm hr
  have hl1 : (l ++ low4 (Crc.sum l)).length = n + 4 := by rw [List.length_append, low4_len, hn]
  have hfr : Wr.frame l = Wr.bytes (n + 4) ++ (l ++ low4 (Crc.sum l)) := by rw [Wr.frame, hn]
  have HFR := Lib.hid hfr
  clear hfr
  generalize l ++ low4 (Crc.sum l) = S at *
  go_enter Try.func32, Try.ntmps32
  go_upto_region 2 with (first
    | (go_at_call 64; refine hseal.mono ?_; clear hseal; rintro e w1 ⟨v, rfl, hown, hb⟩; obtain ⟨A1, c1, rfl, hc1, hcm1, hrd1⟩ := hown.slice)
    | fail)
  rw [hl1] at hc1
  have hnum := refNumber_any (n + 4) w1 (by omega)
  have hL1 : Later w w1 := hb
  have hbl := Wr.bytes_le (n + 4)
  simp only [Int.natCast_add] at hnum
  generalize Wr.bytes (n + 4) = B at *
  clear hb hown
  go_wp2_with (first
    | (go_at_call 15; refine hnum.mono ?_; clear hnum; rintro e w2 ⟨v2, rfl, hown2, hL2⟩; have hrd2 := hrd1.later hL2; have hL3 := hL1.step hL2; have hown2' := hown2.mono hL1.size)
    | (at_builtin; refine wpList_append_bytes rfl (.tmp 8) (.tmp 9) 22 rfl w.heap.size 5 Try.underlying22 byteInfo _ _ rfl hown2' A1 (n + 4) c1 S rfl hl1 hrd2 (by omega) hL3.size ?_; intro v3 w3 hown3 hg3 hat3; obtain ⟨A3, n3, c3, rfl⟩ := hown3.shape)
    | fail)
  go_ret
  exact ⟨_, rfl, by rw [HFR.out]; exact hown3, hL3.grown hg3 hL3.size (fun j e => (hown2'.at_ j e).1)⟩
end Go.Proofs.Ytmipaacobioakaa
