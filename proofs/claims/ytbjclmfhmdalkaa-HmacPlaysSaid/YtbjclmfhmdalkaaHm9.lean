/- Bytes made of a text, and one more behind them. -/
import Derived.Test.YtbjclmfhmdalkaaHm8
set_option linter.unusedVariables false
set_option linter.unusedSimpArgs false
namespace Go.Proofs.Ytbjclmfhmdalkaa
open Go.RowKit
/-- A slice of the call's own that reads as these bytes; what is frozen of its row lies behind it. -/
def OwnQ (U : TypeId) (w : World) (base : Nat) (v : Value) (l : List UInt8) : Prop :=
  ∃ g cap cur, ∃ fr : Nat × Nat, v = .slice (some ⟨g, 0, none⟩) l.length cap ∧ base ≤ g ∧ w.heap[g]? = some (.cells cur U fr) ∧ (∀ i, i < cur.size → ¬ (fr.1 ≤ i ∧ i < fr.2)) ∧ l.length ≤ cap ∧ cap ≤ maxLen ∧ cur.size = cap ∧ cur.toList.take l.length = l.map byteV
section
variable {U : TypeId} {w w' : World} {base : Nat} {v : Value} {l : List UInt8}
theorem OwnQ.keep (h : OwnQ U w base v l) (hk : ∀ b, b < w.heap.size → v.ownBlock = some b → w'.heap[b]? = w.heap[b]?) : OwnQ U w' base v l := by
  obtain ⟨g, cap, cur, fr, rfl, h1, h2, h3⟩ := h
  exact ⟨g, cap, cur, fr, rfl, h1, by rw [hk g (Array.getElem?_eq_some_iff.1 h2).1 rfl]; exact h2, h3⟩
theorem OwnQ.below (h : OwnQ U w base v l) (hb : Below w.heap.size w w') : OwnQ U w' base v l := h.keep fun b hb' _ => hb.block b hb'
theorem OwnQ.at_ (h : OwnQ U w base v l) : ∀ k, v.ownBlock = some k → base ≤ k ∧ k < w.heap.size := by
  obtain ⟨g, cap, cur, fr, rfl, h1, h2, h3⟩ := h
  intro k e
  simp [Value.ownBlock] at e
  subst e
  exact ⟨h1, (Array.getElem?_eq_some_iff.1 h2).1⟩
theorem OwnQ.slice (h : OwnQ U w base v l) : ∃ g c, v = .slice (some ⟨g, 0, none⟩) l.length c ∧ l.length ≤ c ∧ c ≤ 9223372036854775807 ∧ base ≤ g ∧ Rd w (some ⟨g, 0, none⟩) l := by
  obtain ⟨g, cap, cur, fr, rfl, h1, h2, h3, h4, h5, h6, h7⟩ := h
  refine ⟨g, cap, rfl, h4, by unfold maxLen at h5; omega, h1, fun _ => ⟨g, 0, rfl, fun i hi => ?_⟩⟩
  rw [cell_of_row w g (0 + i) cur U fr h2, Nat.zero_add]
  have : (cur.toList.take l.length)[i]? = (l.map byteV)[i]? := by rw [h7]
  rw [List.getElem?_take_of_lt hi, Array.getElem?_toList, List.getElem?_map, List.getElem?_eq_getElem hi] at this
  exact this
end
theorem conv_own (w : World) (l : List UInt8) (hl : l.length ≤ 9223372036854775807) : ∃ W cap, (convert 9 22 (.string ⟨l.toArray⟩)).run Try.prog w = .ok (.slice (some ⟨w.heap.size, 0, none⟩) l.length cap) W ∧ OwnQ 5 W w.heap.size (.slice (some ⟨w.heap.size, 0, none⟩) l.length cap) l ∧ Later w W := by
  refine ⟨_, _, Lib.run_convert_string_bytes (P := Try.prog) w 9 22 5 ⟨l.toArray⟩ Try.underlying9 Try.underlying22 Try.underlying5, ⟨w.heap.size, _, _, _, rfl, Nat.le_refl _, Lib.bytesWorld_at_new _ _ _, fun i hi h => ?_, grownCap_ge _ _ _ _, grownCap_le_maxLen w l.length 0 5 (by unfold maxLen; exact hl), ?_, ?_⟩, ⟨rfl, rfl, rfl, by rw [Lib.bytesWorld_size]; omega, fun b hb => Lib.bytesWorld_at_old _ _ _ b hb⟩⟩
  · omega
  · have h1 := grownCap_ge w l.length 0 5
    have e : (ByteArray.mk l.toArray).size = l.length := by simp [ByteArray.size]
    rw [Lib.bytesCells, Array.size_append, Array.size_map, Array.size_replicate, e]
    simp
    omega
  · simp [Lib.bytesCells]
theorem take_pushed (l : List UInt8) (c : UInt8) (X : List Value) : List.take (l ++ [c]).length (l.map byteV ++ byteV c :: X) = (l ++ [c]).map byteV := by
  have e : l.map byteV ++ byteV c :: X = (l.map byteV ++ [byteV c]) ++ X := by simp
  rw [e, show (l ++ [c]).length = (l.map byteV ++ [byteV c]).length from by simp, List.take_left]
  simp
theorem run_append_byteQ {P : Program} (w : World) (base : Nat) (t ty U : TypeId) (ht : P.underlying t = some (.slice U)) (hi : ByteInfo P U) (v : Value) (l : List UInt8) (hown : OwnQ U w base v l) (hb : base ≤ w.heap.size)
    (b : Nat) (c : UInt8) (m : Nat) (hc : w.cell? ⟨b, 0, none⟩ = some (byteV c)) (hm : l.length ≤ 1000000000) :
    ∃ v' w', (Builtin.append_ #[t, t] ty #[v, .slice (some ⟨b, 0, none⟩) 1 m]).run P w = .ok v' w' ∧ OwnQ U w' base v' (l ++ [c]) ∧ w.grownBy w' v.ownBlock := by
  obtain ⟨i, hi0, hz, hs, hby⟩ := info_parts hi
  have hnews : ∀ j u, [byteV c][j]? = some u → w.cell? ((⟨b, 0, none⟩ : Addr).add j) = some u := fun j u hu => by
    rcases j with _ | j
    · simp at hu; subst hu; exact hc
    · simp at hu
  obtain ⟨g, cap, cur, fr, rfl, hbg, hg, hfr, hnc, hcm, hcs, htake⟩ := hown
  by_cases hroom : l.length + 1 ≤ cap
  · have hlt : l.length < cur.size := by omega
    have hcell : w.cell? ⟨g, l.length, none⟩ = some cur[l.length] := by rw [cell_of_row w g _ cur U fr hg, Array.getElem?_eq_getElem hlt]
    have hfro : w.frozen? ⟨g, l.length, none⟩ = false := by
      have := hfr l.length hlt
      obtain ⟨lo, hi'⟩ := fr
      simp only [World.frozen?, hg, Bool.and_eq_false_iff, decide_eq_false_iff_not]
      simp only at this
      omega
    have hst : (store (⟨g, l.length, none⟩ : Addr) (byteV c)).run P w = .ok () (w.setCell ⟨g, l.length, none⟩ (byteV c)) := by
      rw [run_store P w _ (byteV c) _ rfl, hcell]
      simp [hfro]
    have hf := run_firstCells_some (P := P) w i.size 1 ⟨b, 0, none⟩ 1 m [byteV c] (by rw [hs]; rfl) hnews
    rw [hs] at hf
    have hsc : (storeCells (⟨g, l.length, none⟩ : Addr) [byteV c]).run P w = .ok () (w.setCell ⟨g, l.length, none⟩ (byteV c)) := by
      have h0 : (⟨g, l.length, none⟩ : Addr).add 0 = ⟨g, l.length, none⟩ := by simp [Addr.add]
      simp only [storeCells, Sem.run_bind, h0, hst, Result.andThen_ok]
      rfl
    refine ⟨.slice (some ⟨g, 0, none⟩) (l.length + 1) cap, w.setCell ⟨g, l.length, none⟩ (byteV c), ?_, ⟨g, cap, cur.setIfInBounds l.length (byteV c), fr, by simp, hbg, by rw [setCell_eq_setRow w g l.length cur U fr (byteV c) hg]; exact setRow_heap w g cur _ U _ hg, by simpa using hfr, by simp; omega, hcm, by simpa using hcs, ?_⟩, grown_set w g l.length (byteV c)⟩
    · simp [Builtin.append_, run_underlying ht, sizeOf, typeInfo, hi0, Builtin.lenOf, hroom, hf, Addr.add_lit, hs, hsc]
    · have hlt' : l.length < cur.toList.length := by rw [Array.length_toList]; exact hlt
      rw [Array.toList_setIfInBounds, List.set_eq_take_append_cons_drop, if_pos hlt', htake]
      exact take_pushed l c _
  · have holds : ∀ j u, (l.map byteV)[j]? = some u → w.cell? ((⟨g, 0, none⟩ : Addr).add j) = some u := fun j u hu => by
      have hj : j < l.length := by
        rcases Nat.lt_or_ge j l.length with h | h
        · exact h
        · rw [List.getElem?_eq_none (by simpa using h)] at hu; cases hu
      have hadd : (⟨g, 0, none⟩ : Addr).add j = ⟨g, j, none⟩ := by unfold Addr.add; split <;> simp_all
      rw [hadd, cell_of_row w g j cur U fr hg, ← hu, ← htake, List.getElem?_take_of_lt hj, Array.getElem?_toList]
    have hr := run_append_grow (P := P) w t ty U i _ ht hi0 hz ⟨g, 0, none⟩ l.length cap (l.map byteV) (by rw [hs]; simp) holds ⟨b, 0, none⟩ 1 m [byteV c] (by rw [hs]; rfl) hnews (by omega) (by omega) (by
      rw [hby]
      have := nextslicecap_le (need := l.length + 1) (old := cap) (by omega)
      omega)
    have hL : Later w (w.drew.alloc (.cells ((l.map byteV).toArray ++ [byteV c].toArray ++ Builtin.zeroCells (Value.int .u8 0).cells (grownCap w (l.length + 1) cap U - (l.length + 1))) U)) := ((Later.refl w).drew).alloc _
    refine ⟨_, _, hr, ⟨w.heap.size, _, _, (0, 0), by simp; rfl, hb, heap_alloc_new w.drew _, fun i _ h => by omega, by simpa using grownCap_ge w (l.length + 1) cap U, grownCap_le_maxLen w _ _ _ (by unfold maxLen; omega), ?_, ?_⟩, later_grown hL g⟩
    · have hge := grownCap_ge w (l.length + 1) cap U
      rw [show (Value.int IntKind.u8 0).cells = #[.int .u8 0] from rfl, zeroCells_list]
      simp
      omega
    · rw [show (Value.int IntKind.u8 0).cells = #[.int .u8 0] from rfl, zeroCells_list]
      simp only [List.toList_toArray, Array.toList_append, Array.toList_replicate, List.append_assoc, List.cons_append, List.nil_append, List.size_toArray, List.length_cons, List.length_nil, Nat.mul_one, Nat.zero_add]
      exact take_pushed l c _
theorem wpList_append_byteQ {P : Program} {w : World} {ops : Array Oper} {rest : List Oper} {o : Oper} {a : Act} {Q : Exit → Act → World → Prop} (hgd : o.guard = none) (s x : Operand) (t : TypeId)
    (ho : o.op = .call { callee := .builtin .append, args := #[s, x], argTypes := #[t, t] }) (base : Nat) (U : TypeId) (ht : P.underlying t = some (.slice U)) (hi : ByteInfo P U)
    (v : Value) (l : List UInt8) (hs : a.eval s = v) (hown : OwnQ U w base v l) (hb : base ≤ w.heap.size) (b : Nat) (c : UInt8) (m : Nat) (hx : a.eval x = .slice (some ⟨b, 0, none⟩) 1 m) (hc : w.cell? ⟨b, 0, none⟩ = some (byteV c)) (hm : l.length ≤ 1000000000)
    (h : ∀ v' w', OwnQ U w' base v' (l ++ [c]) → w.grownBy w' v.ownBlock → wpList P ops Q rest (a.put o.dst v') w') : wpList P ops Q (o :: rest) a w :=
  wpList_plain hgd fun _ hK => by
    obtain ⟨v', w', hr', h2, h3⟩ := run_append_byteQ (P := P) w base t o.type U ht hi v l hown hb b c m hc hm
    unfold Oper.wp execOp
    simp only [ho, resolve, invoke, builtin, Sem.run_bind, Sem.run_pure, Result.andThen_ok, List.map_toArray, List.map_cons, List.map_nil, hs, hx, hr']
    exact hK _ _ (h v' w' h2 h3)
end Go.Proofs.Ytbjclmfhmdalkaa
