/- What came in: slices of bytes with what room they have; steps. -/
import Derived.Test.YtbjclmfhmdalkaaHm14
import Derived.Deep.SlicePairs
import Derived.Lib.SmallJoins
set_option linter.unusedVariables false
set_option linter.unusedSimpArgs false
namespace Go.Proofs.Ytbjclmfhmdalkaa
open Go.RowKit Go.ChangeShapes Go.WideShapes Go.ChangeAt
structure InRowsC (w : World) (A : Option Addr) (n c : Nat) (ls : List (List UInt8)) : Prop where
  len : ls.length = n
  cap : n ≤ c
  most : c ≤ maxLen
  rd : RdsC w A ls
theorem in_rowsC {H : Type} {enc : TypeId × Value → H} {P : Program} {w : World} {t e q : TypeId} {held : Bool} {fuel len cap : Nat} {A : Option Addr} {x : DataW H × List MemPlace} (ht : P.underlying t = some (.slice e)) (he : P.underlying e = some (.slice q)) (hq : P.underlying q = some (.int .u8)) (ce : P.cellsOf e = 1) (cq : P.cellsOf q = 1)
    (h : DataW.trod enc P w 0 (fun _ => true) held fuel t [.slice A len cap] = some x) : ∃ ls, InRowsC w A len cap ls := by
  rcases Deep.open_int_rows ht he hq ce cq h with ⟨hcs, _⟩ | ⟨ad, l, c, A', L, C, Z, hcs, _, hl, hm, _, hr⟩
  · injection hcs with h1
    injection h1 with h1 h2 h3
    subst h1 h2 h3
    exact ⟨[], rfl, Nat.le_refl _, Nat.zero_le _, RdsC.nil _ _⟩
  · injection hcs with h1
    injection h1 with h1 h2 h3
    subst h1 h2 h3
    have hlen : ∀ r, r < len → (bytesOf ((Z r).take (L r))).length = L r := fun r hr' => by
      obtain ⟨_, h2, _, h4, _⟩ := hr r (by omega)
      unfold bytesOf
      rw [List.length_map, List.length_take]
      omega
    refine ⟨(List.range len).map fun r => bytesOf ((Z r).take (L r)), by simp, hl, hm, fun hne => ?_⟩
    have h0 : 0 < len := by
      rcases Nat.eq_zero_or_pos len with rfl | hp
      · exact absurd rfl hne
      · exact hp
    obtain ⟨b, o, rfl⟩ : ∃ b o, ad = ⟨b, o, none⟩ := ⟨_, _, addr_none (show w.cell? ad = some _ from (hr 0 (by omega)).1)⟩
    refine ⟨b, o, rfl, fun i hi => ?_⟩
    have hi' : i < len := by simpa using hi
    obtain ⟨h1, h2, h3, h4, h5, h6, h7⟩ := hr i (by omega)
    have e2 : ((List.range len).map fun r => bytesOf ((Z r).take (L r)))[i] = bytesOf ((Z i).take (L i)) := by simp
    rw [e2, hlen i hi']
    refine ⟨A' i, C i, ?_, h2, by unfold maxLen at h3; omega, ?_⟩
    · rw [addr_add] at h1
      exact h1
    · rcases hA : A' i with _ | x'
      · have : C i = 0 := h6 hA
        have hZ : Z i = [] := List.eq_nil_of_length_eq_zero (by omega)
        rw [hZ, show bytesOf (List.take (L i) []) = [] from by simp [bytesOf]]
        exact Rd.nil _ _
      · exact rd_of_ints (by omega) (fun j hj => (h7 x' hA).2 j (by omega)) h5
structure InSteps (w : World) (A : Option Addr) (n c : Nat) (ss : List (List UInt8 × Nat)) : Prop where
  len : ss.length = n
  cap : n ≤ c
  most : c ≤ maxLen
  small : ∀ s ∈ ss, s.1.length ≤ maxLen ∧ s.2 < 18446744073709551616
  rd : Steps w A ss
theorem in_steps {H : Type} {enc : TypeId × Value → H} {P : Program} {w : World} {t e : TypeId} {held : Bool} {fuel len cap : Nat} {A : Option Addr} {x : DataW H × List MemPlace} {f0 f1 : Field} (ht : P.underlying t = some (.slice e)) (he : P.underlying e = some (.struct #[f0, f1])) (ce : P.cellsOf e = 2)
    (o0 : f0.offset = 0) (o1 : f1.offset = 1) (c0 : P.cellsOf f0.type = 1) (c1 : P.cellsOf f1.type = 1) (u0 : P.underlying f0.type = some .string) (u1 : P.underlying f1.type = some (.int .u64))
    (h : DataW.trod enc P w 0 (fun _ => true) held fuel t [.slice A len cap] = some x) : ∃ ss, InSteps w A len cap ss := by
  rcases Deep.open_slice_pairs ht he ce o0 o1 c0 c1 h with ⟨hcs, _⟩ | ⟨ad, l, c, m, k, V0, V1, D0, D1, P0, P1, hcs, _, hl, hm, hmm, _, hr⟩
  · injection hcs with h1
    injection h1 with h1 h2 h3
    subst h1 h2 h3
    exact ⟨[], rfl, Nat.le_refl _, Nat.zero_le _, by simp, Steps.nil _ _⟩
  · injection hcs with h1
    injection h1 with h1 h2 h3
    subst h1 h2 h3
    have hmc : m = cap := by rw [hmm]; rfl
    have each : ∀ i, ∃ s : List UInt8 × Nat, i < len → V0 i = .string ⟨s.1.toArray⟩ ∧ V1 i = .int .u64 (s.2 : Int) ∧ s.1.length ≤ maxLen ∧ s.2 < 18446744073709551616 := fun i => by
      by_cases hi : i < len
      · obtain ⟨_, _, h3, h4⟩ := hr i (by omega)
        obtain ⟨s, e1, _, hs⟩ := DataW.trod_string u0 h3
        obtain ⟨z, e2, _, hz⟩ := DataW.trod_int u1 h4
        injection e1 with e1
        injection e2 with e2
        have hz' : 0 ≤ z ∧ z < 18446744073709551616 := by
          simp [Lit.wf, IntKind.min, IntKind.max, IntKind.signed, IntKind.bits] at hz
          omega
        refine ⟨(s.data.toList, z.toNat), fun _ => ⟨by rw [e1], by rw [e2]; congr 1; show z = ((z.toNat : Nat) : Int); omega, by simpa using hs, by show z.toNat < _; omega⟩⟩
      · exact ⟨([], 0), fun h => absurd h hi⟩
    obtain ⟨f, hf⟩ := Classical.axiomOfChoice each
    refine ⟨(List.range len).map f, by simp, hl, hm, fun s hs => ?_, fun hne => ?_⟩
    · obtain ⟨i, hi, rfl⟩ := List.mem_map.1 hs
      exact (hf i (List.mem_range.1 hi)).2.2
    · have h0 : 0 < len := by
        rcases Nat.eq_zero_or_pos len with rfl | hp
        · exact absurd rfl hne
        · exact hp
      obtain ⟨b, o, rfl⟩ : ∃ b o, ad = ⟨b, o, none⟩ := ⟨_, _, addr_none (show w.cell? ad = some _ from (hr 0 (by omega)).1)⟩
      refine ⟨b, o, rfl, fun i hi => ?_⟩
      have hi' : i < len := by simpa using hi
      obtain ⟨h1, h2, _, _⟩ := hr i (by omega)
      obtain ⟨e1, e2, _, _⟩ := hf i hi'
      rw [addr_add] at h1 h2
      rw [e1] at h1
      rw [e2] at h2
      simp only [List.getElem_map, List.getElem_range]
      exact ⟨h1, by rw [Nat.add_assoc]; exact h2⟩
end Go.Proofs.Ytbjclmfhmdalkaa
