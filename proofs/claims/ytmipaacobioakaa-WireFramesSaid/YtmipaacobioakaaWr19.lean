/- Walks: a frame split off (wire.Split). -/
import Derived.Test.YtmipaacobioakaaWr17
set_option linter.unusedVariables false
set_option linter.unusedSimpArgs false
namespace Go.Proofs.Ytmipaacobioakaa
open Go.RowKit
theorem run_slice_piece {P : Program} {t U : TypeId} {A : Option Addr} {n ca k m : Nat} (ht : P.underlying t = some (.slice U)) (hi : ByteInfo P U) (h1 : k ≤ m) (h2 : m ≤ ca) :
    ∃ D, (∀ w : World, (Instr.slice t (.slice A n ca) (some (.int .i64 (k : Int))) (some (.int .i64 (m : Int))) none).run P w = .ok (.slice D (m - k) (ca - k)) w) ∧ (∀ (W : World) (l : List UInt8), m ≤ l.length → Rd W A l → Rd W D ((l.drop k).take (m - k))) ∧ ∀ ad, D = some ad → ∃ ad', A = some ad' ∧ ad'.block = ad.block := by
  obtain ⟨i, hi0, hz, hs, hb⟩ := info_parts hi
  have he : P.elem t = U := by simp [Program.elem, ht]
  have ht' : P.underlying t = some (.slice (P.elem t)) := by rw [he]; exact ht
  refine ⟨if ca = k then A else A.map (·.add (k * 1)), fun w => ?_, fun W l hl hr => ?_, fun ad e => ?_⟩
  · rw [run_slice_lh w t A n ca ht' .i64 .i64 (k : Int) (m : Int) (by omega) (by omega) (by omega), he]
    simp [sizeOf, typeInfo, hi0, hs, sliced]
  · by_cases h : ca = k
    · rw [show m - k = 0 from by omega, List.take_zero]
      exact Rd.nil _ _
    · refine Rd.take ?_ _
      rw [if_neg h, Nat.mul_one]
      intro hne
      obtain ⟨b, o, e, hc⟩ := hr (by intro e; subst e; simp at hne)
      subst e
      refine ⟨b, o + k, by unfold Addr.add; simp, fun i hi' => ?_⟩
      rw [List.getElem_drop, Nat.add_assoc]
      exact hc (k + i) (by rw [List.length_drop] at hi'; omega)
  · split at e
    · exact ⟨ad, e, rfl⟩
    · rcases A with _ | x
      · cases e
      · refine ⟨x, rfl, ?_⟩
        have e2 : x.add (k * 1) = ad := Option.some.inj e
        rw [← e2]
        unfold Addr.add
        split <;> rfl
theorem results3 {P : Program} {fn : Func} {p q r : Tmp} (h : fn.results = #[.tmp p, .tmp q, .tmp r]) (tmps : Array Value) (w : World) {v1 v2 v3 : Value} (h1 : tmps.getD p undef = v1) (h2 : tmps.getD q undef = v2) (h3 : tmps.getD r undef = v3) :
    (results fn tmps).run P w = .ok (.tuple #[v1, v2, v3]) w := by
  have h1' : tmps[p]?.getD undef = v1 := by simpa using h1
  have h2' : tmps[q]?.getD undef = v2 := by simpa using h2
  have h3' : tmps[r]?.getD undef = v3 := by simpa using h3
  simp [results, h, h1', h2', h3']
def Wr.piece (l : List UInt8) : List UInt8 := (l.drop (Wr.first l).2.toNat).take (Wr.first l).1
/-- A frame split off bytes: what it frames, how many bytes it has, the error. -/
def Wr.splitR (l : List UInt8) : List UInt8 × Int × Int :=
  if (Wr.first l).2 = 0 then ([], 0, 0) else if (Wr.first l).2 < 0 ∨ (Wr.first l).1 < 4 ∨ 8196 < (Wr.first l).1 then ([], 0, 141)
  else if (l.length : Int) - (Wr.first l).2 < ((Wr.first l).1 : Int) then ([], 0, 0)
  else if openOk (Wr.piece l) then (openB (Wr.piece l), (Wr.first l).2 + ((Wr.first l).1 : Int), 0) else ([], 0, 130)
set_option maxRecDepth 100000 in
set_option maxHeartbeats 1000000 in
theorem split_any (A : Option Addr) (n c : Nat) (l : List UInt8) (w : World) (hn : l.length = n) (hc : n ≤ c) (hcm : c ≤ 9223372036854775807) (hr : Rd w A l) :
    Calls Try.prog 30 #[.slice A n c] w fun e w' => ∃ v, e = .returned (.tuple #[v, .int .i64 (Wr.splitR l).2.1, .int .i64 (Wr.splitR l).2.2]) ∧ Own 5 w' w.heap.size v (Wr.splitR l).1 ∧ Below w.heap.size w w' := by
  have hfi := first_any A n c l w hn hc (by omega) hr
  obtain ⟨hf1, hf2, hf3⟩ := Wr.first_le l
  obtain ⟨R, hR⟩ : ∃ R, Wr.splitR l = R := ⟨_, rfl⟩
  have hp : Wr.piece l = (l.drop (Wr.first l).2.toNat).take (Wr.first l).1 := rfl
  rw [hR]
  unfold Wr.splitR at hR
  generalize Wr.piece l = p at *
  generalize Wr.first l = F at *
  obtain ⟨f, s⟩ := F
  simp only at hR hp hf1 hf2 hf3
  by_cases h0 : s = 0
  · rw [if_pos h0] at hR
    subst h0
    subst hR
    go_enter Try.func30, Try.ntmps30
    go_wp2_with (first
      | (go_at_call 60; refine hfi.mono ?_; clear hfi; rintro e w2 ⟨rfl, hb⟩)
      | fail)
    exact bodyPost_ret (results3 rfl _ _ rfl rfl rfl) rfl ⟨_, rfl, Own.nil _ _ _, hb⟩
  · rw [if_neg h0] at hR
    have hd0 : (s == 0) = false := by simpa using h0
    by_cases h1 : s < 0 ∨ f < 4 ∨ 8196 < f
    · rw [if_pos h1] at hR
      subst hR
      by_cases a1 : s < 0
      · have d1 : decide (s < 0) = true := decide_eq_true a1
        go_enter Try.func30, Try.ntmps30
        go_wp2_with (first
          | (go_at_call 60; refine hfi.mono ?_; clear hfi; rintro e w2 ⟨rfl, hb⟩)
          | fail)
        exact bodyPost_ret (results3 rfl _ _ rfl rfl rfl) rfl ⟨_, rfl, Own.nil _ _ _, hb⟩
      · have d1 : decide (s < 0) = false := decide_eq_false a1
        by_cases a2 : f < 4
        · have d2 : decide ((f : Int) < 4) = true := decide_eq_true (by omega)
          have d2' : decide (f < 4) = true := decide_eq_true (by omega)
          go_enter Try.func30, Try.ntmps30
          go_wp2_with (first
            | (go_at_call 60; refine hfi.mono ?_; clear hfi; rintro e w2 ⟨rfl, hb⟩)
            | fail)
          exact bodyPost_ret (results3 rfl _ _ rfl rfl rfl) rfl ⟨_, rfl, Own.nil _ _ _, hb⟩
        · have d2 : decide ((f : Int) < 4) = false := decide_eq_false (by omega)
          have d2' : decide (f < 4) = false := decide_eq_false (by omega)
          have d3 : decide ((8196 : Int) < (f : Int)) = true := decide_eq_true (by omega)
          have d3' : decide (8196 < f) = true := decide_eq_true (by omega)
          go_enter Try.func30, Try.ntmps30
          go_wp2_with (first
            | (go_at_call 60; refine hfi.mono ?_; clear hfi; rintro e w2 ⟨rfl, hb⟩)
            | fail)
          exact bodyPost_ret (results3 rfl _ _ rfl rfl rfl) rfl ⟨_, rfl, Own.nil _ _ _, hb⟩
    · rw [if_neg h1] at hR
      have a1 : ¬ s < 0 := fun h => h1 (.inl h)
      have a2 : ¬ f < 4 := fun h => h1 (.inr (.inl h))
      have a3 : ¬ 8196 < f := fun h => h1 (.inr (.inr h))
      obtain ⟨k, rfl⟩ : ∃ k : Nat, s = k := ⟨s.toNat, by omega⟩
      have d1 : decide ((k : Int) < 0) = false := decide_eq_false a1
      have d2 : decide ((f : Int) < 4) = false := decide_eq_false (by omega)
      have d2' : decide (f < 4) = false := decide_eq_false (by omega)
      have d3 : decide ((8196 : Int) < (f : Int)) = false := decide_eq_false (by omega)
      have d3' : decide (8196 < f) = false := decide_eq_false (by omega)
      rw [hn] at hR hf1
      clear h1 h0
      have hkn : k ≤ n := by omega
      have hsub : ((n : Int) - (k : Int)) = ((n - k : Nat) : Int) := by omega
      by_cases h2 : (n : Int) - (k : Int) < (f : Int)
      · rw [if_pos h2] at hR
        subst hR
        have d4 : decide ((n : Int) - (k : Int) < (f : Int)) = true := decide_eq_true h2
        go_enter Try.func30, Try.ntmps30
        go_wp2_with (first
          | (go_at_call 60; refine hfi.mono ?_; clear hfi; rintro e w2 ⟨rfl, hb⟩)
          | fail)
        exact bodyPost_ret (results3 rfl _ _ rfl rfl rfl) rfl ⟨_, rfl, Own.nil _ _ _, hb⟩
      · rw [if_neg h2] at hR
        have d4 : decide ((n : Int) - (k : Int) < (f : Int)) = false := decide_eq_false h2
        have hkf : k + f ≤ n := by omega
        obtain ⟨D, hs1, hD, _⟩ := run_slice_piece (P := Try.prog) (t := 22) (U := 5) (A := A) (n := n) (ca := c) (k := k) (m := k + f) Try.underlying22 byteInfo (by omega) (by omega)
        have hpl : p.length = f := by rw [hp]; simp; omega
        have hDp : ∀ W, Rd W A l → Rd W D p := fun W h => by
          have := hD W l (by omega) h
          rw [show k + f - k = f by omega] at this
          rw [hp, Int.toNat_natCast]
          exact this
        rw [show k + f - k = f by omega] at hs1
        simp only [Int.natCast_add] at hs1
        have hop := fun W (h : Rd W A l) => open_any D f (c - k) p W hpl (by omega) (by omega) (hDp W h)
        unfold OpenPost openE openB at hop
        unfold openB at hR
        cases hok : openOk p with
        | true =>
          simp only [hok, if_true] at hop hR
          subst hR
          go_enter Try.func30, Try.ntmps30
          go_wp2_with (first
            | (go_at_call 60; refine hfi.mono ?_; clear hfi; rintro e w2 ⟨rfl, hb⟩; have hr2 := hr.below hb)
            | (go_at_call 61; refine (hop _ hr2).mono ?_; clear hop; rintro e w3 ⟨v, rfl, hown, hb3⟩; obtain ⟨A', n', c', rfl⟩ := hown.shape)
            | fail)
          exact bodyPost_ret (results3 rfl _ _ rfl rfl rfl) rfl ⟨_, rfl, hown.mono hb.size, below_step hb hb.size hb3⟩
        | false =>
          simp only [hok, Bool.false_eq_true, if_false] at hop hR
          subst hR
          go_enter Try.func30, Try.ntmps30
          go_wp2_with (first
            | (go_at_call 60; refine hfi.mono ?_; clear hfi; rintro e w2 ⟨rfl, hb⟩; have hr2 := hr.below hb)
            | (go_at_call 61; refine (hop _ hr2).mono ?_; clear hop; rintro e w3 ⟨v, rfl, hown, hb3⟩; obtain ⟨A', n', c', rfl⟩ := hown.shape)
            | fail)
          exact bodyPost_ret (results3 rfl _ _ rfl rfl rfl) rfl ⟨_, rfl, Own.nil _ _ _, below_step hb hb.size hb3⟩
end Go.Proofs.Ytmipaacobioakaa
