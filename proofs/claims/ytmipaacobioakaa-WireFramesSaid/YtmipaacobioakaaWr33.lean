/- Calls of a writer that come in. -/
import Derived.Test.YtmipaacobioakaaWr31
import Derived.OpenShut
import Derived.Deep.Grids
set_option linter.unusedVariables false
set_option linter.unusedSimpArgs false
namespace Go.Proofs.Ytmipaacobioakaa
open Go.RowKit Go.ChangeShapes Go.WideShapes Go.ChangeAt
/-- A call of a writer. -/
structure ActL where
  what : Int
  nums : List Int
  truths : List Bool
  hashes : List (List UInt8)
  text : List UInt8
/-- A call's cells. -/
def actC (x : ActL) (A1 A2 A3 : Option Addr) (c1 c2 c3 : Nat) : List Value := [.int .i64 x.what, .slice A1 x.nums.length c1, .slice A2 x.truths.length c2, .slice A3 x.hashes.length c3, .string ⟨x.text.toArray⟩]
/-- What a call's slices read as. -/
structure ActOk (w : World) (x : ActL) (A1 A2 A3 : Option Addr) (c1 c2 c3 : Nat) : Prop where
  n1 : x.nums.length ≤ c1
  n2 : x.truths.length ≤ c2
  n3 : x.hashes.length ≤ c3
  m1 : c1 ≤ maxLen
  m2 : c2 ≤ maxLen
  m3 : c3 ≤ maxLen
  m4 : x.text.length ≤ maxLen
  r1 : RdV w A1 (x.nums.map numV)
  r2 : RdV w A2 (x.truths.map Value.bool)
  r3 : RdH w A3 x.hashes
  h32 : ∀ h ∈ x.hashes, h.length = 32
theorem ActOk.below {w w' : World} {x : ActL} {A1 A2 A3 : Option Addr} {c1 c2 c3 : Nat} (h : ActOk w x A1 A2 A3 c1 c2 c3) (hb : Below w.heap.size w w') : ActOk w' x A1 A2 A3 c1 c2 c3 :=
  ⟨h.n1, h.n2, h.n3, h.m1, h.m2, h.m3, h.m4, h.r1.below hb, h.r2.below hb, h.r3.below hb, h.h32⟩
/-- A slice's cells read as these calls. -/
def Acts (w : World) (A : Option Addr) (xs : List ActL) : Prop :=
  xs ≠ [] → ∃ b o, A = some ⟨b, o, none⟩ ∧ ∀ i (h : i < xs.length), ∃ A1 A2 A3 c1 c2 c3, w.rangeAt b (o + i * 5) (actC xs[i] A1 A2 A3 c1 c2 c3) ∧ ActOk w xs[i] A1 A2 A3 c1 c2 c3
theorem Acts.nil (w : World) (A : Option Addr) : Acts w A [] := fun h => absurd rfl h
structure InActs (w : World) (A : Option Addr) (n c : Nat) (xs : List ActL) : Prop where
  len : xs.length = n
  cap : n ≤ c
  most : c ≤ maxLen
  rd : Acts w A xs
section
variable {H : Type} {enc : TypeId × Value → H} {P : Program} {w : World} {held : Bool}
theorem rdV_of {A : Addr} {vs : List Value} (h : ∀ i (hi : i < vs.length), w.cell? (A.add i) = some vs[i]) : RdV w (some A) vs := fun hne => by
  have h0 : 0 < vs.length := List.length_pos_iff.2 hne
  obtain ⟨b, o, rfl⟩ : ∃ b o, A = ⟨b, o, none⟩ := ⟨_, _, addr_none (h 0 h0)⟩
  exact ⟨b, o, rfl, fun i hi => by have := h i hi; rwa [addr_add] at this⟩
theorem in_nums {t e : TypeId} {fuel : Nat} {v : Value} {x : DataW H × List MemPlace} (ht : P.underlying t = some (.slice e)) (he : P.underlying e = some (.int .i64)) (hc : P.cellsOf e = 1)
    (h : DataW.trod enc P w 0 (fun _ => true) held fuel t [v] = some x) : ∃ (l : List Int) (A : Option Addr) (c : Nat), v = .slice A l.length c ∧ l.length ≤ c ∧ c ≤ maxLen ∧ RdV w A (l.map numV) := by
  rcases open_ints ht he hc h with ⟨hcs, _⟩ | ⟨ad, len, cap, zs, hcs, _, hl, hm, hz, _, hcell, hwz⟩
  · injection hcs with h1
    subst h1
    exact ⟨[], none, 0, rfl, Nat.le_refl _, Nat.zero_le _, RdV.nil _ _⟩
  · injection hcs with h1
    subst h1
    simp only [if_true] at hz
    have hlen : (zs.take len).length = len := by rw [List.length_take]; omega
    refine ⟨zs.take len, some ad, cap, by rw [hlen], by omega, hm, rdV_of fun i hi => ?_⟩
    have hi' : i < len := by rw [List.length_map, hlen] at hi; exact hi
    have := hcell i (by omega)
    have e : zs.getD i 0 = zs[i]'(by omega) := by simp [List.getD, show i < zs.length by omega]
    rw [this, e]
    simp
theorem in_bools {t e : TypeId} {fuel : Nat} {v : Value} {x : DataW H × List MemPlace} (ht : P.underlying t = some (.slice e)) (he : P.underlying e = some .bool) (hc : P.cellsOf e = 1)
    (h : DataW.trod enc P w 0 (fun _ => true) held fuel t [v] = some x) : ∃ (l : List Bool) (A : Option Addr) (c : Nat), v = .slice A l.length c ∧ l.length ≤ c ∧ c ≤ maxLen ∧ RdV w A (l.map Value.bool) := by
  rcases Deep.open_bools ht he hc h with ⟨hcs, _⟩ | ⟨ad, len, cap, B, hcs, _, hl, hm, _, hcell⟩
  · injection hcs with h1
    subst h1
    exact ⟨[], none, 0, rfl, Nat.le_refl _, Nat.zero_le _, RdV.nil _ _⟩
  · injection hcs with h1
    subst h1
    refine ⟨(List.range len).map B, some ad, cap, by simp, by simpa using hl, hm, rdV_of fun i hi => ?_⟩
    have hi' : i < len := by simpa using hi
    have := hcell i (by omega)
    rw [this]
    simp
theorem in_hashes {t e q : TypeId} {fuel : Nat} {v : Value} {x : DataW H × List MemPlace} (ht : P.underlying t = some (.slice e)) (he : P.underlying e = some (.array 32 q)) (hq : P.underlying q = some (.int .u8)) (ce : P.cellsOf e = 32) (cq : P.cellsOf q = 1)
    (h : DataW.trod enc P w 0 (fun _ => true) held fuel t [v] = some x) : ∃ (l : List (List UInt8)) (A : Option Addr) (c : Nat), v = .slice A l.length c ∧ l.length ≤ c ∧ c ≤ maxLen ∧ RdH w A l ∧ ∀ h ∈ l, h.length = 32 := by
  rcases Deep.open_slice ht h with ⟨hcs, _⟩ | ⟨ad, len, cap, m, n, D, Pl, hcs, _, hl, hm, hmm, _, hx⟩
  · injection hcs with h1
    subst h1
    exact ⟨[], none, 0, rfl, Nat.le_refl _, Nat.zero_le _, RdH.nil _ _, by simp⟩
  · injection hcs with h1
    subst h1
    have hlm : len ≤ m := by rw [hmm]; simpa using hl
    have each : ∀ i, ∃ s : List UInt8, i < len → s.length = 32 ∧ ∀ j, j < 32 → w.cell? ((ad.add (i * 32)).add j) = (hC s).toList[j]? := fun i => by
      by_cases hi : i < len
      · obtain ⟨cs', h1, h2⟩ := hx i (by omega)
        rw [ce] at h1
        obtain ⟨_, hlen, hcell⟩ := World.cells?_some h1
        obtain ⟨xs, k, _, _, _, hxl, hf⟩ := DataW.trod_array he h2
        have hb : ∀ j, j < 32 → ∃ y : UInt8, cs'[j]? = some (byteV y) := fun j hj => by
          have h3 := hf j hj
          rw [cq, Nat.mul_one, List.getElem?_eq_getElem (by omega)] at h3
          obtain ⟨z, hz, _, hw⟩ := DataW.trod_int hq h3
          rw [List.drop_eq_getElem_cons (by omega), List.take_succ_cons, List.take_zero] at hz
          injection hz with hz
          refine ⟨UInt8.ofNat z.toNat, ?_⟩
          rw [List.getElem?_eq_getElem (by omega), hz, byteV, u8_of_wf hw]
        refine ⟨cs'.map byteOfV, fun _ => ⟨by simp; exact hlen, fun j hj => ?_⟩⟩
        obtain ⟨y, hy⟩ := hb j hj
        have h4 := hcell j hj
        rw [hy] at h4
        rw [h4, hC_full _ (by simp; exact hlen)]
        simp only [List.getElem?_map, hy, Option.map_some, byteOfV, byteV]
        congr 2
        rw [UInt8.toNat_ofNat']
        have := y.toNat_lt
        simp
      · exact ⟨[], fun h => absurd h hi⟩
    obtain ⟨f, hf⟩ := Classical.axiomOfChoice each
    refine ⟨(List.range len).map f, some ad, cap, by simp, by simpa using hl, hm, fun hne => ?_, fun s hs => ?_⟩
    · have h0 : 0 < len := by
        rcases Nat.eq_zero_or_pos len with rfl | hp
        · exact absurd rfl hne
        · exact hp
      obtain ⟨b, o, rfl⟩ : ∃ b o, ad = ⟨b, o, none⟩ := by
        obtain ⟨hs, hc⟩ := hf 0 h0
        have h1 := hc 0 (by omega)
        obtain ⟨v, hv⟩ := hC_first (f 0)
        rw [hv] at h1
        have := addr_none h1
        obtain ⟨b', o', k'⟩ := ad
        refine ⟨b', o', ?_⟩
        unfold Addr.add at this
        simp at this
        congr
      refine ⟨b, o, rfl, fun i hi j v hv => ?_⟩
      have hi' : i < len := by simpa using hi
      obtain ⟨hs, hc⟩ := hf i hi'
      simp only [List.getElem_map, List.getElem_range] at hv
      have hj : j < 32 := by
        have := (List.getElem?_eq_some_iff.1 hv).1
        rw [Array.length_toList, hC_size _ (by omega)] at this
        exact this
      have h1 := hc j hj
      rw [hv, addr_add, addr_add] at h1
      exact h1
    · obtain ⟨i, hi, rfl⟩ := List.mem_map.1 hs
      exact (hf i (List.mem_range.1 hi)).1
theorem in_acts {t e : TypeId} {fuel len cap : Nat} {A : Option Addr} {x : DataW H × List MemPlace} {f0 f1 f2 f3 f4 : Field} {e1 e2 e3 q3 : TypeId} (ht : P.underlying t = some (.slice e)) (he : P.underlying e = some (.struct #[f0, f1, f2, f3, f4])) (ce : P.cellsOf e = 5)
    (o0 : f0.offset = 0) (o1 : f1.offset = 1) (o2 : f2.offset = 2) (o3 : f3.offset = 3) (o4 : f4.offset = 4) (c0 : P.cellsOf f0.type = 1) (c1 : P.cellsOf f1.type = 1) (c2 : P.cellsOf f2.type = 1) (c3 : P.cellsOf f3.type = 1) (c4 : P.cellsOf f4.type = 1)
    (u0 : P.underlying f0.type = some (.int .i64)) (u1 : P.underlying f1.type = some (.slice e1)) (u2 : P.underlying f2.type = some (.slice e2)) (u3 : P.underlying f3.type = some (.slice e3)) (u4 : P.underlying f4.type = some .string)
    (v1 : P.underlying e1 = some (.int .i64)) (v2 : P.underlying e2 = some .bool) (v3 : P.underlying e3 = some (.array 32 q3)) (v4 : P.underlying q3 = some (.int .u8)) (d1 : P.cellsOf e1 = 1) (d2 : P.cellsOf e2 = 1) (d3 : P.cellsOf e3 = 32) (d4 : P.cellsOf q3 = 1)
    (h : DataW.trod enc P w 0 (fun _ => true) held fuel t [.slice A len cap] = some x) : ∃ xs, InActs w A len cap xs := by
  rcases Deep.open_slice ht h with ⟨hcs, _⟩ | ⟨ad, len, cap, m, n, D, Pl, hcs, _, hl, hm, hmm, _, hx⟩
  · injection hcs with h1
    injection h1 with h1 h2 h3
    subst h1 h2 h3
    exact ⟨[], rfl, Nat.le_refl _, Nat.zero_le _, Acts.nil _ _⟩
  · injection hcs with h1
    injection h1 with h1 h2 h3
    subst h1 h2 h3
    have hlm : len ≤ m := by rw [hmm]; simpa using hl
    have each : ∀ i, ∃ s : ActL, i < len → ∃ A1 A2 A3 c1 c2 c3, (∀ j v, (actC s A1 A2 A3 c1 c2 c3)[j]? = some v → w.cell? ((ad.add (i * 5)).add j) = some v) ∧ ActOk w s A1 A2 A3 c1 c2 c3 := fun i => by
      by_cases hi : i < len
      · obtain ⟨cs', h1, h2⟩ := hx i (by omega)
        rw [ce] at h1
        obtain ⟨_, hlen, hcell⟩ := World.cells?_some h1
        obtain ⟨xs, k, _, _, _, hxl, hf⟩ := DataW.trod_struct he h2
        match xs, hxl, cs', hlen with
        | [y0, y1, y2, y3, y4], _, [w0, w1, w2, w3, w4], _ =>
          have g0 := hf 0 f0 rfl
          have g1 := hf 1 f1 rfl
          have g2 := hf 2 f2 rfl
          have g3 := hf 3 f3 rfl
          have g4 := hf 4 f4 rfl
          simp [o0, c0] at g0
          simp [o1, c1] at g1
          simp [o2, c2] at g2
          simp [o3, c3] at g3
          simp [o4, c4] at g4
          obtain ⟨z, hz, _, _⟩ := DataW.trod_int u0 g0
          injection hz with hz
          obtain ⟨l1, A1, cc1, rfl, a1, a2, a3⟩ := in_nums u1 v1 d1 g1
          obtain ⟨l2, A2, cc2, rfl, b1, b2, b3⟩ := in_bools u2 v2 d2 g2
          obtain ⟨l3, A3, cc3, rfl, h1', h2', h3', h4'⟩ := in_hashes u3 v3 v4 d3 d4 g3
          obtain ⟨s, hs, _, hsm⟩ := DataW.trod_string u4 g4
          injection hs with hs
          refine ⟨⟨z, l1, l2, l3, s.data.toList⟩, fun _ => ⟨A1, A2, A3, cc1, cc2, cc3, fun j v hv => ?_, ⟨a1, b1, h1', a2, b2, h2', by simpa using hsm, a3, b3, h3', h4'⟩⟩⟩
          have hj : j < 5 := (List.getElem?_eq_some_iff.1 hv).1
          rw [hcell j hj, ← hv, hz, hs]
          rfl
      · exact ⟨⟨0, [], [], [], []⟩, fun h => absurd h hi⟩
    obtain ⟨f, hf⟩ := Classical.axiomOfChoice each
    refine ⟨(List.range len).map f, by simp, hl, hm, fun hne => ?_⟩
    have h0 : 0 < len := by
      rcases Nat.eq_zero_or_pos len with rfl | hp
      · exact absurd rfl hne
      · exact hp
    obtain ⟨b, o, rfl⟩ : ∃ b o, ad = ⟨b, o, none⟩ := by
      obtain ⟨A1, A2, A3, c1, c2, c3, hc, _⟩ := hf 0 h0
      have := addr_none (hc 0 _ rfl)
      obtain ⟨b', o', k'⟩ := ad
      refine ⟨b', o', ?_⟩
      unfold Addr.add at this
      simp at this
      congr
    refine ⟨b, o, rfl, fun i hi => ?_⟩
    have hi' : i < len := by simpa using hi
    obtain ⟨A1, A2, A3, c1, c2, c3, hc, hok⟩ := hf i hi'
    refine ⟨A1, A2, A3, c1, c2, c3, fun j v hv => ?_, by simpa using hok⟩
    simp only [List.getElem_map, List.getElem_range] at hv
    have h1 := hc j v hv
    rw [addr_add, addr_add] at h1
    exact h1
end
end Go.Proofs.Ytmipaacobioakaa
