/- What comes in: a message. -/
import Derived.Test.YtcajhdmppfiaeaaGreatGl11
set_option linter.unusedVariables false
set_option linter.unusedSimpArgs false
namespace Go.Proofs.YtcajhdmppfiaeaaGreat
open Go.ChangeShapes Go.WideShapes Go.ChangeAt Go.RowKit Ms
section
variable {P : Program} {w : World} {r : Reach} {b : Nat} {t : TypeId} {v : Value}
theorem cellW_int {k : IntKind} (ht : P.underlying t = some (.int k)) (h : Cell.okWide P w r b t v) : ∃ n, v = .int k n ∧ k.has n := by
  unfold Cell.okWide Cell.ok at h
  rw [ht] at h
  cases v <;> simp_all
theorem cellW_str (ht : P.underlying t = some .string) (h : Cell.okWide P w r b t v) : ∃ s, v = .string s ∧ (s.size : Int) ≤ 9223372036854775807 := by
  unfold Cell.okWide Cell.ok at h
  rw [ht] at h
  cases v <;> simp_all
end
/-- The types of a message's cells. -/
def saidT : List TypeId := [22] ++ List.replicate 32 5 ++ List.replicate 5 2 ++ List.replicate 64 5 ++ List.replicate 2 2 ++ List.replicate 192 5 ++ List.replicate 5 2 ++ [9]
theorem saidT_eq : Tryz.prog.cellTypes Tryz.prog.depth 29 = some saidT := by kernel_rfl
theorem said_where : ∀ i, i < 302 → i = 0 ∨ (∃ j, j < 9 ∧ offH j ≤ i ∧ i < offH j + 32) ∨ (∃ j, j < 12 ∧ i = offN j) ∨ i = 301 := by decide +kernel
theorem saidT_h : ∀ j, j < 9 → ∀ i, i < 32 → saidT[offH j + i]? = some 5 := by decide +kernel
theorem saidT_n : ∀ j, j < 12 → saidT[offN j]? = some 2 := by decide +kernel
def sIntV : Value → Int
  | .int _ z => z
  | _ => 0
def sStrV : Value → List UInt8
  | .string s => s.data.toList
  | _ => []
def sByV : Value → UInt8
  | .int _ z => UInt8.ofNat z.toNat
  | _ => 0
/-- A message as its cells tell. -/
def saidOf (cs : Array Value) : Said :=
  let h := fun j => (List.range 32).map fun i => sByV (cs.getD (offH j + i) undef)
  let n := fun j => sIntV (cs.getD (offN j) undef)
  { kind := sIntV (cs.getD 0 undef), fund := h 0, tix := n 0, cap := n 1, dust := n 2, fee := n 3, delay := n 4, key0 := h 1, key1 := h 2, reserve := n 5, amount := n 6, point := h 3, next := h 4, key := h 5, hash := h 6, tag := h 7, secret := h 8, id := n 7, number := n 8, index := n 9, expiry := n 10, code := n 11, route := sStrV (cs.getD 301 undef) }
theorem saidOf_h (cs : Array Value) (j : Nat) (hj : j < 9) : (saidOf cs).h j = (List.range 32).map fun i => sByV (cs.getD (offH j + i) undef) := by
  rcases j with _ | _ | _ | _ | _ | _ | _ | _ | _ | j
  all_goals first | rfl | omega
theorem saidOf_n (cs : Array Value) (j : Nat) (hj : j < 12) : (saidOf cs).n j = sIntV (cs.getD (offN j) undef) := by
  rcases j with _ | _ | _ | _ | _ | _ | _ | _ | _ | _ | _ | _ | j
  all_goals first | rfl | omega
theorem saidOf_wf (cs : Array Value) : (saidOf cs).wf := fun j hj => by
  rw [saidOf_h cs j hj, List.length_map, List.length_range]
set_option maxRecDepth 100000 in
theorem open_said {w : World} {r : Reach} {b : Nat} {v : Value} (hv : Value.okWide Tryz.prog w r b 29 v) : ∃ s : Said, s.wf ∧ s.route.length ≤ 9223372036854775807 ∧ v = .agg (saidC s) := by
  unfold Value.okWide at hv
  obtain ⟨d, hd, hv⟩ : ∃ d, Tryz.prog.underlying 29 = some (.struct d) ∧ ∃ cs, v = .agg cs ∧ cs.size = Tryz.prog.cellsOf 29 ∧ Row.okWide Tryz.prog w r b 29 cs := by
    rw [Tryz.underlying29] at hv ⊢
    exact ⟨_, rfl, hv⟩
  obtain ⟨cs, rfl, hsz, ts, hts, _, hc⟩ := hv
  rw [saidT_eq] at hts
  injection hts with hts
  subst hts
  rw [show Tryz.prog.cellsOf 29 = 302 by kernel_rfl] at hsz
  have hlen : saidT.length = 302 := by decide +kernel
  have hcell : ∀ i u, i < 302 → saidT[i]? = some u → ∃ v, cs[i]? = some v ∧ cs.getD i undef = v ∧ Cell.okWide Tryz.prog w r b u v := fun i u hi hu => by
    obtain ⟨u', h1, h2⟩ := hc i cs[i] (Array.getElem?_eq_getElem (by omega))
    rw [hlen, Nat.mod_eq_of_lt hi, hu] at h1
    injection h1 with h1
    subst h1
    exact ⟨_, Array.getElem?_eq_getElem (by omega), by simp [Array.getD, hsz, hi], h2⟩
  have hw := saidOf_wf cs
  obtain ⟨vs, h1, h2, h3⟩ := hcell 301 _ (by decide) (show saidT[301]? = some 9 by decide +kernel)
  obtain ⟨st, rfl, hst⟩ := cellW_str Tryz.underlying9 h3
  have hroute : (saidOf cs).route = st.data.toList := by
    show sStrV (cs.getD 301 undef) = _
    rw [h2]
    rfl
  refine ⟨saidOf cs, hw, by rw [hroute, Array.length_toList]; have e : st.data.size = st.size := rfl; omega, ?_⟩
  congr 1
  apply Array.ext_getElem?
  intro i
  by_cases hi : i < 302
  · rcases said_where i hi with rfl | ⟨j, hj, hj1, hj2⟩ | ⟨j, hj, rfl⟩ | rfl
    · rw [saidC_kind hw]
      obtain ⟨v, g1, g2, g3⟩ := hcell 0 _ (by decide) (show saidT[0]? = some 22 by decide +kernel)
      obtain ⟨n, rfl, _⟩ := cellW_int Tryz.underlying22 g3
      rw [g1]
      show _ = some (Value.int .i64 (sIntV (cs.getD 0 undef)))
      rw [g2]
      rfl
    · obtain ⟨k, rfl⟩ : ∃ k, i = offH j + k := ⟨i - offH j, by omega⟩
      rw [saidC_h hw j hj k (by omega), saidOf_h cs j hj, hC_full _ (by simp)]
      obtain ⟨v, g1, g2, g3⟩ := hcell (offH j + k) _ hi (saidT_h j hj k (by omega))
      obtain ⟨n, rfl, hn⟩ := cellW_int Tryz.underlying5 g3
      rw [g1, List.map_map, List.getElem?_toArray, List.getElem?_map, List.getElem?_range (by omega)]
      show _ = some (byteV (sByV (cs.getD (offH j + k) undef)))
      rw [g2]
      have hb : 0 ≤ n ∧ n ≤ 255 := by
        simp [IntKind.has, IntKind.min, IntKind.max, IntKind.signed, IntKind.bits] at hn
        omega
      unfold byteV sByV
      rw [UInt8.toNat_ofNat']
      congr 2
      omega
    · rw [saidC_n hw j hj, saidOf_n cs j hj]
      obtain ⟨v, g1, g2, g3⟩ := hcell (offN j) _ hi (saidT_n j hj)
      obtain ⟨n, rfl, _⟩ := cellW_int Tryz.underlying2 g3
      rw [g1, g2]
      rfl
    · rw [saidC_route hw, h1, hroute]
  · rw [Array.getElem?_eq_none (by omega), Array.getElem?_eq_none (by rw [saidC_size hw]; omega)]
end Go.Proofs.YtcajhdmppfiaeaaGreat
