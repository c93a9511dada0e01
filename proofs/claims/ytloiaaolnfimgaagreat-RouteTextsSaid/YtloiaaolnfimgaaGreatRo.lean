/- Route: a slice of edges that comes in: each cell, by the type at its place. -/
import Derived.Test.YtloiaaolnfimgaaGreatRk3
import Derived.Test.YtloiaaolnfimgaaGreatRtP
import Derived.Deep.Slices
import Derived.OpenShut
set_option linter.unusedVariables false
set_option linter.unusedSimpArgs false
namespace Go.Proofs.YtloiaaolnfimgaaGreat
open Go.RowKit Rt
/-- The type at place o of a type of numbers and texts. -/
def leafOf (P : Program) : Nat → TypeId → Nat → Option TypeId
  | 0, _, _ => none
  | k + 1, t, o =>
    match P.underlying t with
    | some (.int _) => if o = 0 then some t else none
    | some .string => if o = 0 then some t else none
    | some (.array n e) => if o / P.cellsOf e < n ∧ 0 < P.cellsOf e then leafOf P k e (o % P.cellsOf e) else none
    | some (.struct fs) =>
      match (List.range fs.size).find? (fun i => match fs[i]? with | some f => decide (f.offset ≤ o) && decide (o < f.offset + P.cellsOf f.type) | none => false) with
      | some i => match fs[i]? with
        | some f => leafOf P k f.type (o - f.offset)
        | none => none
      | none => none
    | _ => none
theorem take_drop_at {α : Type} (l : List α) (a c j : Nat) (v : α) (h : ((l.drop a).take c)[j]? = some v) : l[a + j]? = some v := by
  rw [List.getElem?_take] at h
  split at h
  · rwa [List.getElem?_drop] at h
  · cases h
theorem leafOf_trod {H : Type} {enc : TypeId × Value → H} {P : Program} {w : World} {base : Nat} {sp : Nat → Bool} {held : Bool} : ∀ (k : Nat) (t : TypeId) (o : Nat) (u : TypeId) (fuel : Nat) (cs : List Value) (x : DataW H × List MemPlace),
    leafOf P k t o = some u → DataW.trod enc P w base sp held fuel t cs = some x → ∃ v, cs[o]? = some v ∧ Cell.okWide P w .any 0 u v
  | 0, _, _, _, _, _, _, h, _ => by cases h
  | k + 1, t, o, u, fuel, cs, x, h, hx => by
    unfold leafOf at h
    rcases hu : P.underlying t with _ | d
    · rw [hu] at h; cases h
    · rw [hu] at h
      cases d <;> simp only [] at h <;> try (cases h; done)
      case int kk =>
        split at h
        · rename_i ho
          cases h
          subst ho
          obtain ⟨n, rfl, -, hw⟩ := DataW.trod_int hu hx
          refine ⟨_, rfl, ?_⟩
          unfold Cell.okWide Cell.ok
          rw [hu]
          simp only [Lit.wf, Bool.and_eq_true, decide_eq_true_eq] at hw
          exact ⟨rfl, hw⟩
        · cases h
      case string =>
        split at h
        · rename_i ho
          cases h
          subst ho
          obtain ⟨s, rfl, -, hw⟩ := DataW.trod_string hu hx
          refine ⟨_, rfl, ?_⟩
          unfold Cell.okWide Cell.ok
          rw [hu]
          show (s.size : Int) ≤ 9223372036854775807
          unfold maxLen at hw
          omega
        · cases h
      case array n e =>
        split at h
        · rename_i hn
          obtain ⟨xs, m, -, -, -, hl, hf⟩ := DataW.trod_array hu hx
          have h1 := hf (o / P.cellsOf e) hn.1
          rw [List.getElem?_eq_getElem (by omega)] at h1
          obtain ⟨v, h2, h3⟩ := leafOf_trod k e _ u _ _ _ h h1
          refine ⟨v, ?_, h3⟩
          have := take_drop_at _ _ _ _ _ h2
          rwa [Nat.div_add_mod'] at this
        · cases h
      case struct fs =>
        split at h
        · rename_i i hi
          split at h
          · rename_i f hf0
            obtain ⟨xs, m, -, -, -, hl, hf⟩ := DataW.trod_struct hu hx
            have h1 := hf i f hf0
            have hin : i < fs.size := (Array.getElem?_eq_some_iff.1 hf0).1
            rw [List.getElem?_eq_getElem (by omega)] at h1
            obtain ⟨v, h2, h3⟩ := leafOf_trod k f.type _ u _ _ _ h h1
            refine ⟨v, ?_, h3⟩
            have h4 := List.find?_some hi
            rw [hf0] at h4
            simp only [Bool.and_eq_true, decide_eq_true_eq] at h4
            have := take_drop_at _ _ _ _ _ h2
            rwa [Nat.add_sub_cancel' h4.1] at this
          · cases h
        · cases h
section
variable {P : Program} {w : World} {r : Reach} {b : Nat} {t : TypeId} {v : Value}
theorem cellW_int {k : IntKind} (ht : P.underlying t = some (.int k)) (h : Cell.okWide P w r b t v) : ∃ n, v = .int k n ∧ k.has n := by
  unfold Cell.okWide Cell.ok at h
  rw [ht] at h
  cases v <;> simp_all
end
def rByV : Value → UInt8
  | .int _ n => UInt8.ofNat n.toNat
  | _ => 0
def rIntV : Value → Int
  | .int _ n => n
  | _ => 0
def edgeT : List TypeId := List.replicate 64 5 ++ List.replicate 3 2
set_option maxRecDepth 100000 in
theorem edge_leaves : ((List.range 67).map fun i => leafOf Tryz.prog 6 44 i) = edgeT.map some := by kernel_rfl
set_option maxRecDepth 100000 in
theorem edge_leaf (i : Nat) (hi : i < 67) : leafOf Tryz.prog 6 44 i = some (if i < 64 then 5 else 2) := by
  have h := congrArg (fun l => l[i]?) edge_leaves
  simp only [List.getElem?_map, List.getElem?_range hi, Option.map_some, edgeT] at h
  by_cases h1 : i < 64
  · rw [if_pos h1]
    rw [List.getElem?_append_left (by simpa using h1), List.getElem?_replicate, if_pos h1] at h
    simpa using h
  · rw [if_neg h1]
    rw [List.getElem?_append_right (by simpa using h1), List.getElem?_replicate, if_pos (by simp; omega)] at h
    simpa using h
set_option maxRecDepth 100000 in
theorem edge_cells {w : World} {r : Reach} {b : Nat} {cs : Array Value} (hsz : cs.size = 67) (hcell : ∀ i, i < 67 → Cell.okWide Tryz.prog w r b (if i < 64 then 5 else 2) (cs.getD i undef)) : ∃ e : Rt.Edge, e.wf ∧ edgeC e = cs := by
  have hget : ∀ i, i < 67 → cs[i]? = some (cs.getD i undef) := fun i hi => by
    rw [Array.getElem?_eq_getElem (by omega)]
    simp [Array.getD, hsz, hi]
  have hby : ∀ i, i < 64 → cs.getD i undef = byteV (rByV (cs.getD i undef)) := fun i hi => by
    have h2 := hcell i (by omega)
    rw [if_pos hi] at h2
    obtain ⟨n, e, hn⟩ := cellW_int Tryz.underlying5 h2
    rw [e]
    simp [IntKind.has, IntKind.min, IntKind.max, IntKind.signed, IntKind.bits] at hn
    unfold byteV rByV
    rw [UInt8.toNat_ofNat']
    congr 1
    omega
  have hin : ∀ i, 64 ≤ i → i < 67 → cs.getD i undef = .int .i64 (rIntV (cs.getD i undef)) := fun i h1 hi => by
    have h2 := hcell i hi
    rw [if_neg (by omega)] at h2
    obtain ⟨n, e, hn⟩ := cellW_int Tryz.underlying2 h2
    rw [e]
    rfl
  have h1 : ((List.range 32).map fun i => rByV (cs.getD i undef)).length = 32 := by simp
  have h2 : ((List.range 32).map fun i => rByV (cs.getD (32 + i) undef)).length = 32 := by simp
  obtain ⟨ed, hed⟩ : ∃ ed : Rt.Edge, ed = ⟨(List.range 32).map fun i => rByV (cs.getD i undef), (List.range 32).map fun i => rByV (cs.getD (32 + i) undef), rIntV (cs.getD 64 undef), rIntV (cs.getD 65 undef), rIntV (cs.getD 66 undef)⟩ := ⟨_, rfl⟩
  have hw : ed.wf := by subst hed; exact ⟨h1, h2⟩
  refine ⟨ed, hw, ?_⟩
  apply Array.ext_getElem?
  intro i
  by_cases hi : i < 32
  · rw [edgeC_key hw i hi, hC_full _ hw.1, hget i (by omega), hed]
    simp only [List.getElem?_toArray, List.getElem?_map, List.getElem?_range hi, Option.map_some]
    rw [← hby i (by omega)]
  · by_cases hi2 : i < 64
    · obtain ⟨k, rfl⟩ : ∃ k, i = 32 + k := ⟨i - 32, by omega⟩
      have hk : k < 32 := by omega
      rw [edgeC_chan hw k hk, hC_full _ hw.2, hget (32 + k) (by omega), hed]
      simp only [List.getElem?_toArray, List.getElem?_map, List.getElem?_range hk, Option.map_some]
      rw [← hby (32 + k) (by omega)]
    · by_cases hi3 : i < 67
      · obtain ⟨n1, n2, n3⟩ := edgeC_num hw
        have : i = 64 ∨ i = 65 ∨ i = 66 := by omega
        rcases this with rfl | rfl | rfl
        · rw [n1, hget 64 (by omega), hin 64 (by omega) (by omega), hed]
        · rw [n2, hget 65 (by omega), hin 65 (by omega) (by omega), hed]
        · rw [n3, hget 66 (by omega), hin 66 (by omega) (by omega), hed]
      · rw [Array.getElem?_eq_none (by rw [edgeC_size hw]; omega), Array.getElem?_eq_none (by omega)]
structure InEdges (w : World) (A : Option Addr) (n c : Nat) (l : List Rt.Edge) : Prop where
  len : l.length = n
  cap : n ≤ c
  most : c ≤ maxLen
  wf : ∀ e ∈ l, e.wf
  rd : Recs 67 w A (l.map edgeL)
set_option maxRecDepth 100000 in
theorem in_edges {H : Type} {enc : TypeId × Value → H} {w : World} {held : Bool} {fuel len cap : Nat} {A : Option Addr} {x : DataW H × List MemPlace}
    (h : DataW.trod enc Tryz.prog w 0 (fun _ => true) held fuel 40 [.slice A len cap] = some x) : ∃ l, InEdges w A len cap l := by
  rcases Deep.open_slice Tryz.underlying40 h with ⟨hcs, _⟩ | ⟨ad, l, c, m, n, D, Pl, hcs, _, hl, hm, hmm, _, hx⟩
  · injection hcs with h1
    injection h1 with h1 h2 h3
    subst h1 h2 h3
    exact ⟨[], rfl, Nat.le_refl _, Nat.zero_le _, by simp, Recs.nil _ _ _⟩
  · injection hcs with h1
    injection h1 with h1 h2 h3
    subst h1 h2 h3
    have hmc : m = cap := by rw [hmm]; rfl
    have ce : Tryz.prog.cellsOf 44 = 67 := by kernel_rfl
    have each : ∀ i, ∃ t : Rt.Edge, i < len → t.wf ∧ ∀ j, j < 67 → w.cell? ((ad.add (i * 67)).add j) = (edgeC t)[j]? := fun i => by
      by_cases hi : i < len
      · obtain ⟨cs', h1, h2⟩ := hx i (by omega)
        rw [ce] at h1
        obtain ⟨_, hlen, hcell⟩ := World.cells?_some h1
        obtain ⟨t, ht, e⟩ := edge_cells (w := w) (r := .any) (b := 0) (cs := cs'.toArray) (by simpa using hlen) (fun j hj => by
          obtain ⟨v, h5, h6⟩ := leafOf_trod 6 _ j _ _ _ _ (edge_leaf j hj) h2
          have : cs'.toArray.getD j undef = v := by
            obtain ⟨hj5, e5⟩ := List.getElem?_eq_some_iff.1 h5
            simp [Array.getD, hj5, e5]
          rw [this]
          exact h6)
        refine ⟨t, fun _ => ⟨ht, fun j hj => ?_⟩⟩
        rw [e, List.getElem?_toArray]
        exact hcell j (by omega)
      · exact ⟨noEdge, fun h => absurd h hi⟩
    obtain ⟨f, hf⟩ := Classical.axiomOfChoice each
    refine ⟨(List.range len).map f, by simp, hl, hm, ?_, fun hne => ?_⟩
    · intro t ht
      obtain ⟨i, hi, rfl⟩ := List.mem_map.1 ht
      exact (hf i (List.mem_range.1 hi)).1
    · have h0 : 0 < len := by
        rcases Nat.eq_zero_or_pos len with e | e
        · subst e; exact absurd rfl hne
        · exact e
      obtain ⟨b, o, rfl⟩ : ∃ b o, ad = ⟨b, o, none⟩ := by
        have h1 := (hf 0 h0).2 0 (by omega)
        rw [Array.getElem?_eq_getElem (by rw [edgeC_size (hf 0 h0).1]; omega)] at h1
        exact ⟨_, _, addr_none (by simpa [Addr.add] using h1)⟩
      refine ⟨b, o, rfl, fun i hi j v hj => ?_⟩
      have hi' : i < len := by simpa using hi
      obtain ⟨h1, h2⟩ := hf i hi'
      simp only [List.getElem_map, List.getElem_range] at hj
      have hj3 : j < 67 := by
        have := (List.getElem?_eq_some_iff.1 hj).1
        rwa [edgeL_len h1] at this
      rw [Array.getElem?_toList] at hj
      have h3 := h2 j hj3
      rw [addr_add, addr_add] at h3
      exact h3.trans hj
end Go.Proofs.YtloiaaolnfimgaaGreat
