/- Walks, msgs: Body. -/
import Derived.Test.YtcajhdmppfiaeaaGreatGk16
set_option linter.unusedVariables false
set_option linter.unusedSimpArgs false
namespace Go.Proofs.YtcajhdmppfiaeaaGreat
open Go.RowKit Ms
theorem IsWr.apart {w : World} {gw : Nat} {r : Option Nat} {l : List UInt8} (h : IsWr w gw r l) {b : Nat} {T : TypeId} {cs : Array Value} (hr : Row w b T cs) (h1 : T ≠ 125) (h2 : T ≠ 5) : b ≠ gw ∧ some b ≠ r := by
  obtain ⟨v, hrow, hown, hv, hne⟩ := h
  refine ⟨fun e => ?_, fun e => ?_⟩
  · subst e; exact h1 (Row.type hr hrow)
  · subst e
    rcases hown.2 with ⟨e, _⟩ | ⟨g', cap, cur, e, _, hh, _⟩
    · rw [e] at hv; cases hv
    · rw [e] at hv
      injection hv with hv
      subst hv
      exact h2 (Row.type hr hh)
theorem Row.wrote {w w' : World} {gw : Nat} {r r' : Option Nat} {l : List UInt8} (hw : IsWr w gw r l) (h : Wrote w w' gw r r') {b : Nat} {T : TypeId} {cs : Array Value} (hr : Row w b T cs) (h1 : T ≠ 125) (h2 : T ≠ 5) : Row w' b T cs := by
  obtain ⟨a1, a2⟩ := hw.apart hr h1 h2
  exact hr.same h.1 ⟨hr.lt, a1, a2⟩
theorem KT.wrote {w w' : World} {gw : Nat} {r r' : Option Nat} {l : List UInt8} (hw : IsWr w gw r l) (h : Wrote w w' gw r r') : KT w w' := fun b T cs ht hr => Row.wrote hw h hr (by rintro rfl; revert ht; decide) (by rintro rfl; revert ht; decide)
theorem below_wrote {B : Nat} {w0 w w' : World} {gw : Nat} {r r' : Option Nat} (hb : Below B w0 w) (hB : B ≤ w.heap.size) (hg : B ≤ gw) (hr : ∀ k, r = some k → B ≤ k) (h : Wrote w w' gw r r') : Below B w0 w' ∧ ∀ k, r' = some k → B ≤ k :=
  ⟨hb.trans (Same.below (h.1.mono fun k hk => ⟨Nat.lt_of_lt_of_le hk hB, by omega, fun e => by have := hr k e.symm; omega⟩)), fun k e => (h.2 k e).elim (fun h => hr k h) (fun h => Nat.le_trans hB h)⟩
namespace Ms
theorem right_facts {s : Said} (h : Ms.right s = true) : (1 ≤ s.kind ∧ s.kind ≤ 14) ∧ zeroed (flds s.kind) s = blank s.kind ∧ (0 ≤ s.id ∧ s.id ≤ 2147483647) ∧ (0 ≤ s.number ∧ s.number ≤ 2147483647) ∧ (0 ≤ s.index ∧ s.index ≤ 2147483647) ∧ (0 ≤ s.expiry ∧ s.expiry ≤ 2147483647) ∧ (0 ≤ s.amount ∧ s.amount ≤ 1125899906842624) ∧ special s = true := by
  unfold Ms.right isKind within amt at h
  simp only [Bool.and_eq_true, decide_eq_true_eq] at h
  obtain ⟨⟨⟨⟨⟨h1, h2⟩, hz⟩, ⟨⟨⟨⟨i1, i2⟩, ⟨n1, n2⟩⟩, ⟨x1, x2⟩⟩, ⟨e1, e2⟩⟩⟩, ⟨a1, a2⟩⟩, hsp⟩ := h
  exact ⟨⟨h1, h2⟩, hz, ⟨i1, i2⟩, ⟨n1, n2⟩, ⟨x1, x2⟩, ⟨e1, e2⟩, ⟨a1, a2⟩, hsp⟩
theorem special_1 {s : Said} (hk : s.kind = 1) (h : special s = true) : 1000 ≤ s.cap ∧ s.cap ≤ 1125899906842624 ∧ 1 ≤ s.dust ∧ s.dust ≤ 500 ∧ 0 ≤ s.fee ∧ s.fee ≤ 400 ∧ 1 ≤ s.delay ∧ s.delay ≤ 1000 ∧ 0 ≤ s.reserve ∧ s.reserve ≤ s.cap / 10 ∧ s.amount ≤ s.cap - s.fee - s.reserve ∧ 0 ≤ s.tix ∧ s.tix ≤ 23 := by
  unfold special termsB at h
  rw [if_pos hk] at h
  simp only [Bool.and_eq_true, decide_eq_true_eq] at h
  obtain ⟨⟨⟨⟨⟨⟨⟨⟨⟨⟨⟨a, b⟩, c⟩, d⟩, e⟩, f⟩, g⟩, i⟩, j⟩, k⟩, l, m⟩, n⟩ := h
  exact ⟨c, d, e, f, g, i, j, k, l, m, n, a, b⟩
theorem special_c {s : Said} (hk : s.kind = 8 ∨ s.kind = 14) (h : special s = true) : 1 ≤ s.code ∧ s.code ≤ 999 := by
  unfold special at h
  rw [if_neg (by omega), if_neg (by omega), if_neg (by omega), if_pos hk] at h
  simpa using h
theorem special_6 {s : Said} (hk : s.kind = 6) (h : special s = true) : s.route.length ≤ 512 := by
  unfold special at h
  rw [if_neg (by omega), if_neg (by omega), if_pos hk] at h
  simp only [Bool.and_eq_true, decide_eq_true_eq] at h
  exact h.2
theorem right_lay {s : Said} (h : Ms.right s = true) : ∀ f ∈ flds s.kind, layOk s f := by
  obtain ⟨⟨h1, h2⟩, hz, ⟨i1, i2⟩, ⟨n1, n2⟩, ⟨x1, x2⟩, ⟨e1, e2⟩, ⟨a1, a2⟩, hsp⟩ := right_facts h
  by_cases hk1 : s.kind = 1
  · have := special_1 hk1 hsp
    rw [hk1]
    intro f hf
    have hf' : f ∈ (flds 1) := hf
    simp only [flds, if_true, List.mem_cons, List.not_mem_nil, or_false, Int.reduceEq, if_false] at hf'
    rcases hf' with rfl | rfl | rfl | rfl | rfl | rfl | rfl | rfl | rfl
    all_goals first | trivial | (show 0 ≤ s.n _ ∧ s.n _ ≤ _; simp only [Said.n]; omega) | (show s.route.length ≤ _; omega)
  by_cases hk2 : s.kind = 2
  · skip
    rw [hk2]
    intro f hf
    have hf' : f ∈ (flds 2) := hf
    simp only [flds, if_true, List.mem_cons, List.not_mem_nil, or_false, Int.reduceEq, if_false] at hf'
    rcases hf' with rfl | rfl | rfl
    all_goals first | trivial | (show 0 ≤ s.n _ ∧ s.n _ ≤ _; simp only [Said.n]; omega) | (show s.route.length ≤ _; omega)
  by_cases hk3 : s.kind = 3
  · skip
    rw [hk3]
    intro f hf
    have hf' : f ∈ (flds 3) := hf
    simp only [flds, if_true, List.mem_cons, List.not_mem_nil, or_false, Int.reduceEq, if_false] at hf'
    rcases hf' with rfl | rfl | rfl
    all_goals first | trivial | (show 0 ≤ s.n _ ∧ s.n _ ≤ _; simp only [Said.n]; omega) | (show s.route.length ≤ _; omega)
  by_cases hk4 : s.kind = 4
  · skip
    rw [hk4]
    intro f hf
    have hf' : f ∈ (flds 4) := hf
    simp only [flds, if_true, List.mem_cons, List.not_mem_nil, or_false, Int.reduceEq, if_false] at hf'
    rcases hf' with rfl
    all_goals first | trivial | (show 0 ≤ s.n _ ∧ s.n _ ≤ _; simp only [Said.n]; omega) | (show s.route.length ≤ _; omega)
  by_cases hk5 : s.kind = 5
  · skip
    rw [hk5]
    intro f hf
    have hf' : f ∈ (flds 5) := hf
    simp only [flds, if_true, List.mem_cons, List.not_mem_nil, or_false, Int.reduceEq, if_false] at hf'
  by_cases hk6 : s.kind = 6
  · have := special_6 hk6 hsp
    rw [hk6]
    intro f hf
    have hf' : f ∈ (flds 6) := hf
    simp only [flds, if_true, List.mem_cons, List.not_mem_nil, or_false, Int.reduceEq, if_false] at hf'
    rcases hf' with rfl | rfl | rfl | rfl | rfl
    all_goals first | trivial | (show 0 ≤ s.n _ ∧ s.n _ ≤ _; simp only [Said.n]; omega) | (show s.route.length ≤ _; omega)
  by_cases hk7 : s.kind = 7
  · skip
    rw [hk7]
    intro f hf
    have hf' : f ∈ (flds 7) := hf
    simp only [flds, if_true, List.mem_cons, List.not_mem_nil, or_false, Int.reduceEq, if_false] at hf'
    rcases hf' with rfl | rfl
    all_goals first | trivial | (show 0 ≤ s.n _ ∧ s.n _ ≤ _; simp only [Said.n]; omega) | (show s.route.length ≤ _; omega)
  by_cases hk8 : s.kind = 8
  · have := special_c (by omega) hsp
    rw [hk8]
    intro f hf
    have hf' : f ∈ (flds 8) := hf
    simp only [flds, if_true, List.mem_cons, List.not_mem_nil, or_false, Int.reduceEq, if_false] at hf'
    rcases hf' with rfl | rfl
    all_goals first | trivial | (show 0 ≤ s.n _ ∧ s.n _ ≤ _; simp only [Said.n]; omega) | (show s.route.length ≤ _; omega)
  by_cases hk9 : s.kind = 9
  · skip
    rw [hk9]
    intro f hf
    have hf' : f ∈ (flds 9) := hf
    simp only [flds, if_true, List.mem_cons, List.not_mem_nil, or_false, Int.reduceEq, if_false] at hf'
    rcases hf' with rfl | rfl
    all_goals first | trivial | (show 0 ≤ s.n _ ∧ s.n _ ≤ _; simp only [Said.n]; omega) | (show s.route.length ≤ _; omega)
  by_cases hk10 : s.kind = 10
  · skip
    rw [hk10]
    intro f hf
    have hf' : f ∈ (flds 10) := hf
    simp only [flds, if_true, List.mem_cons, List.not_mem_nil, or_false, Int.reduceEq, if_false] at hf'
    rcases hf' with rfl | rfl | rfl
    all_goals first | trivial | (show 0 ≤ s.n _ ∧ s.n _ ≤ _; simp only [Said.n]; omega) | (show s.route.length ≤ _; omega)
  by_cases hk11 : s.kind = 11
  · skip
    rw [hk11]
    intro f hf
    have hf' : f ∈ (flds 11) := hf
    simp only [flds, if_true, List.mem_cons, List.not_mem_nil, or_false, Int.reduceEq, if_false] at hf'
    rcases hf' with rfl | rfl
    all_goals first | trivial | (show 0 ≤ s.n _ ∧ s.n _ ≤ _; simp only [Said.n]; omega) | (show s.route.length ≤ _; omega)
  by_cases hk12 : s.kind = 12
  · skip
    rw [hk12]
    intro f hf
    have hf' : f ∈ (flds 12) := hf
    simp only [flds, if_true, List.mem_cons, List.not_mem_nil, or_false, Int.reduceEq, if_false] at hf'
  by_cases hk13 : s.kind = 13
  · skip
    rw [hk13]
    intro f hf
    have hf' : f ∈ (flds 13) := hf
    simp only [flds, if_true, List.mem_cons, List.not_mem_nil, or_false, Int.reduceEq, if_false] at hf'
    rcases hf' with rfl | rfl
    all_goals first | trivial | (show 0 ≤ s.n _ ∧ s.n _ ≤ _; simp only [Said.n]; omega) | (show s.route.length ≤ _; omega)
  by_cases hk14 : s.kind = 14
  · have := special_c (by omega) hsp
    rw [hk14]
    intro f hf
    have hf' : f ∈ (flds 14) := hf
    simp only [flds, if_true, List.mem_cons, List.not_mem_nil, or_false, Int.reduceEq, if_false] at hf'
    rcases hf' with rfl
    all_goals first | trivial | (show 0 ≤ s.n _ ∧ s.n _ ≤ _; simp only [Said.n]; omega) | (show s.route.length ≤ _; omega)
  omega
end Ms
end Go.Proofs.YtcajhdmppfiaeaaGreat
