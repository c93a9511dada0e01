/- Route: an invoice, and a slice of steps, that come in. -/
import Derived.Test.YtloiaaolnfimgaaGreatRo
import Derived.Test.YtloiaaolnfimgaaGreatRqe
set_option linter.unusedVariables false
set_option linter.unusedSimpArgs false
namespace Go.Proofs.YtloiaaolnfimgaaGreat
open Go.RowKit Rt
set_option maxRecDepth 100000 in
theorem hop_cells {w : World} {r : Reach} {b : Nat} {cs : Array Value} (hsz : cs.size = 66) (hcell : ∀ i, i < 66 → Cell.okWide Tryz.prog w r b (if i < 64 then 5 else 2) (cs.getD i undef)) : ∃ e : Hop, e.wf ∧ hopC e = cs := by
  have hget : ∀ i, i < 66 → cs[i]? = some (cs.getD i undef) := fun i hi => by
    rw [Array.getElem?_eq_getElem (by omega)]
    simp [Array.getD, hsz, hi]
  have hby : ∀ i, i < 64 → cs.getD i undef = byteV (rByV (cs.getD i undef)) := fun i hi => by
    have h2 := hcell i (by omega)
    rw [if_pos hi] at h2
    obtain ⟨n, e, hn⟩ := cellW_int Tryz.underlying5 h2
    rw [e]
    simp [IntKind.has, IntKind.min, IntKind.max, IntKind.signed, IntKind.bits] at hn
    unfold byteV rByV
    rw [UInt8.toNat_ofNat']
    congr 1
    omega
  have hin : ∀ i, 64 ≤ i → i < 66 → cs.getD i undef = .int .i64 (rIntV (cs.getD i undef)) := fun i h1 hi => by
    have h2 := hcell i hi
    rw [if_neg (by omega)] at h2
    obtain ⟨n, e, hn⟩ := cellW_int Tryz.underlying2 h2
    rw [e]
    rfl
  have h1 : ((List.range 32).map fun i => rByV (cs.getD i undef)).length = 32 := by simp
  have h2 : ((List.range 32).map fun i => rByV (cs.getD (32 + i) undef)).length = 32 := by simp
  obtain ⟨ed, hed⟩ : ∃ ed : Hop, ed = ⟨(List.range 32).map fun i => rByV (cs.getD i undef), (List.range 32).map fun i => rByV (cs.getD (32 + i) undef), rIntV (cs.getD 64 undef), rIntV (cs.getD 65 undef)⟩ := ⟨_, rfl⟩
  have hw : ed.wf := by subst hed; exact ⟨h1, h2⟩
  refine ⟨ed, hw, ?_⟩
  apply Array.ext_getElem?
  intro i
  by_cases hi : i < 32
  · rw [hopC_key hw i hi, hC_full _ hw.1, hget i (by omega), hed]
    simp only [List.getElem?_toArray, List.getElem?_map, List.getElem?_range hi, Option.map_some]
    rw [← hby i (by omega)]
  · by_cases hi2 : i < 64
    · obtain ⟨k, rfl⟩ : ∃ k, i = 32 + k := ⟨i - 32, by omega⟩
      have hk : k < 32 := by omega
      rw [hopC_next hw k hk, hC_full _ hw.2, hget (32 + k) (by omega), hed]
      simp only [List.getElem?_toArray, List.getElem?_map, List.getElem?_range hk, Option.map_some]
      rw [← hby (32 + k) (by omega)]
    · by_cases hi3 : i < 66
      · have n1 := hopC_amt hw
        have n2 := hopC_exp hw
        have : i = 64 ∨ i = 65 := by omega
        rcases this with rfl | rfl
        · rw [n1, hget 64 (by omega), hin 64 (by omega) (by omega), hed]
        · rw [n2, hget 65 (by omega), hin 65 (by omega) (by omega), hed]
      · rw [Array.getElem?_eq_none (by rw [hopC_size hw]; omega), Array.getElem?_eq_none (by omega)]
def hopT : List TypeId := List.replicate 64 5 ++ List.replicate 2 2
set_option maxRecDepth 100000 in
theorem hop_leaves : ((List.range 66).map fun i => leafOf Tryz.prog 6 27 i) = hopT.map some := by kernel_rfl
theorem hop_leaf (i : Nat) (hi : i < 66) : leafOf Tryz.prog 6 27 i = some (if i < 64 then 5 else 2) := by
  have h := congrArg (fun l => l[i]?) hop_leaves
  simp only [List.getElem?_map, List.getElem?_range hi, Option.map_some, hopT] at h
  by_cases h1 : i < 64
  · rw [if_pos h1]
    rw [List.getElem?_append_left (by simpa using h1), List.getElem?_replicate, if_pos h1] at h
    simpa using h
  · rw [if_neg h1]
    rw [List.getElem?_append_right (by simpa using h1), List.getElem?_replicate, if_pos (by simp; omega)] at h
    simpa using h
structure InHops (w : World) (A : Option Addr) (n c : Nat) (l : List Hop) : Prop where
  len : l.length = n
  cap : n ≤ c
  most : c ≤ maxLen
  wf : ∀ e ∈ l, e.wf
  rd : Recs 66 w A (l.map hopL)
set_option maxRecDepth 100000 in
theorem in_hops {H : Type} {enc : TypeId × Value → H} {w : World} {held : Bool} {fuel len cap : Nat} {A : Option Addr} {x : DataW H × List MemPlace}
    (h : DataW.trod enc Tryz.prog w 0 (fun _ => true) held fuel 22 [.slice A len cap] = some x) : ∃ l, InHops w A len cap l := by
  rcases Deep.open_slice Tryz.underlying22 h with ⟨hcs, _⟩ | ⟨ad, l, c, m, n, D, Pl, hcs, _, hl, hm, hmm, _, hx⟩
  · injection hcs with h1
    injection h1 with h1 h2 h3
    subst h1 h2 h3
    exact ⟨[], rfl, Nat.le_refl _, Nat.zero_le _, by simp, Recs.nil _ _ _⟩
  · injection hcs with h1
    injection h1 with h1 h2 h3
    subst h1 h2 h3
    have hmc : m = cap := by rw [hmm]; rfl
    have ce : Tryz.prog.cellsOf 27 = 66 := by kernel_rfl
    have each : ∀ i, ∃ t : Hop, i < len → t.wf ∧ ∀ j, j < 66 → w.cell? ((ad.add (i * 66)).add j) = (hopC t)[j]? := fun i => by
      by_cases hi : i < len
      · obtain ⟨cs', h1, h2⟩ := hx i (by omega)
        rw [ce] at h1
        obtain ⟨_, hlen, hcell⟩ := World.cells?_some h1
        obtain ⟨t, ht, e⟩ := hop_cells (w := w) (r := .any) (b := 0) (cs := cs'.toArray) (by simpa using hlen) (fun j hj => by
          obtain ⟨v, h5, h6⟩ := leafOf_trod 6 _ j _ _ _ _ (hop_leaf j hj) h2
          have : cs'.toArray.getD j undef = v := by
            obtain ⟨hj5, e5⟩ := List.getElem?_eq_some_iff.1 h5
            simp [Array.getD, hj5, e5]
          rw [this]
          exact h6)
        refine ⟨t, fun _ => ⟨ht, fun j hj => ?_⟩⟩
        rw [e, List.getElem?_toArray]
        exact hcell j (by omega)
      · exact ⟨noHop, fun h => absurd h hi⟩
    obtain ⟨f, hf⟩ := Classical.axiomOfChoice each
    refine ⟨(List.range len).map f, by simp, hl, hm, ?_, fun hne => ?_⟩
    · intro t ht
      obtain ⟨i, hi, rfl⟩ := List.mem_map.1 ht
      exact (hf i (List.mem_range.1 hi)).1
    · have h0 : 0 < len := by
        rcases Nat.eq_zero_or_pos len with e | e
        · subst e; exact absurd rfl hne
        · exact e
      obtain ⟨b, o, rfl⟩ : ∃ b o, ad = ⟨b, o, none⟩ := by
        have h1 := (hf 0 h0).2 0 (by omega)
        rw [Array.getElem?_eq_getElem (by rw [hopC_size (hf 0 h0).1]; omega)] at h1
        exact ⟨_, _, addr_none (by simpa [Addr.add] using h1)⟩
      refine ⟨b, o, rfl, fun i hi j v hj => ?_⟩
      have hi' : i < len := by simpa using hi
      obtain ⟨h1, h2⟩ := hf i hi'
      simp only [List.getElem_map, List.getElem_range] at hj
      have hj3 : j < 66 := by
        have := (List.getElem?_eq_some_iff.1 hj).1
        rwa [hopL_len h1] at this
      rw [Array.getElem?_toList] at hj
      have h3 := h2 j hj3
      rw [addr_add, addr_add] at h3
      exact h3.trans hj
def invT : List TypeId := List.replicate 64 5 ++ List.replicate 2 2
theorem invT_eq : Tryz.prog.cellTypes Tryz.prog.depth 51 = some invT := by kernel_rfl
theorem invT_at : ∀ i, i < 66 → invT[i]? = some (if i < 64 then 5 else 2) := by decide +kernel
set_option maxRecDepth 100000 in
theorem open_inv {w : World} {r : Reach} {b : Nat} {v : Value} (hv : Value.okWide Tryz.prog w r b 51 v) : ∃ h : Hop, h.wf ∧ v = .agg (hopC h) := by
  unfold Value.okWide at hv
  obtain ⟨d, hd, hv⟩ : ∃ d, Tryz.prog.underlying 51 = some (.struct d) ∧ ∃ cs, v = .agg cs ∧ cs.size = Tryz.prog.cellsOf 51 ∧ Row.okWide Tryz.prog w r b 51 cs := by
    rw [Tryz.underlying51] at hv ⊢
    exact ⟨_, rfl, hv⟩
  obtain ⟨cs, rfl, hsz, ts, hts, _, hc⟩ := hv
  rw [invT_eq] at hts
  injection hts with hts
  subst hts
  rw [show Tryz.prog.cellsOf 51 = 66 by kernel_rfl] at hsz
  have hlen : invT.length = 66 := by decide +kernel
  obtain ⟨h, hw, he⟩ := hop_cells hsz (fun i hi => by
    obtain ⟨u', h1, h2⟩ := hc i cs[i] (Array.getElem?_eq_getElem (by omega))
    rw [hlen, Nat.mod_eq_of_lt hi, invT_at i hi] at h1
    injection h1 with h1
    rw [← h1] at h2
    have e : cs.getD i undef = cs[i] := by simp [Array.getD, hsz, hi]
    rw [e]
    exact h2)
  exact ⟨h, hw, by rw [he]⟩
theorem eqInvMe {h : Hop} (hw : h.wf) (w : World) : (binOp .eql 51 (.agg (hopC h)) (.agg (hopC h))).run Tryz.prog w = .ok (.bool true) w := by
  rw [run_eql_struct, eqInv 9996 hw hw, hEq_refl]
  rfl
theorem eqgInv (b : BinOp) (x y : Operand) (xs ys : Array Value) (w : World) : (eqGuard b 51 x y (.agg xs) (.agg ys)).run Tryz.prog w = .ok () w := run_eqGuard_agg w b _ x y xs ys (by kernel_rfl)
end Go.Proofs.YtloiaaolnfimgaaGreat
