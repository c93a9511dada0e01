/- append of noughts onto a row of one's own. -/
import Derived.Test.YtfconncnccgenaaAppZ
import Derived.Test.YtfconncnccgenaaAgg
set_option linter.unusedVariables false
set_option linter.unusedSimpArgs false
namespace Go.Proofs.Ytfconncnccgenaa
open Go.RowKit Go.Builtin
theorem run_append_zeros_own {P : Program} (w : World) (base g cap : Nat) (t tn ty e : TypeId) (kn : IntKind) (ht : P.underlying t = some (.slice e)) (htn : P.underlying tn = some (.int kn)) (hi : ByteInfo P e) (l : List UInt8) (m : Nat) (hl : l.length = m)
    (hown : Own e w base (.slice (some ⟨g, 0, none⟩) m cap) l) (n : Nat) (hm : m + n ≤ 1000000000) (hbase : base ≤ w.heap.size) :
    ∃ v' w', (Builtin.append_ #[t, tn] ty #[.slice (some ⟨g, 0, none⟩) m cap, .int kn n]).run P w = .ok v' w' ∧ Own e w' base v' (l ++ List.replicate n 0) ∧ w.grownBy w' (some g) ∧ (v'.ownBlock = some g ∨ v'.ownBlock = some w.heap.size) := by
  obtain ⟨i, hi0, hz, hs, hb⟩ := info_parts hi
  subst hl
  have hw : IntKind.i64.wrap (n : Int) = n := by rw [IntKind.wrap_i64]; omega
  have h48i : ¬ (281474976710656 < (n : Int)) := by omega
  have hneg : ¬ ((n : Int) < 0) := by omega
  rcases hown.2 with ⟨hv, _⟩ | ⟨g', cap', cur, hv, hbg, hg, hnc, hcm, hcs, htake⟩
  · cases hv
  · injection hv with h1 h2 h3
    injection h1 with h1
    injection h1 with h1
    subst h1 h3
    have hcr : ((List.replicate n (0 : UInt8)).map byteV).length = n := by simp
    by_cases hroom : l.length + n ≤ cap
    · have hst := run_storeCells_at P g l.length e ((List.replicate n (0 : UInt8)).map byteV) 0 cur w hg (by rw [hcr]; omega) (by intro u hu; obtain ⟨x, _, rfl⟩ := List.mem_map.1 hu; rfl)
      simp only [Nat.add_zero] at hst
      have hrun : (Builtin.append_ #[t, tn] ty #[.slice (some ⟨g, 0, none⟩) l.length cap, .int kn n]).run P w = .ok (.slice (some ⟨g, 0, none⟩) (l.length + n) cap) (w.setRow g (cur.toList.take l.length ++ (List.replicate n (0 : UInt8)).map byteV ++ cur.toList.drop (l.length + ((List.replicate n (0 : UInt8)).map byteV).length)).toArray) := by
        rcases Nat.eq_zero_or_pos n with rfl | h0
        · have hself := setRow_self w g cur e (0, 0) hg
          have hw0 : IntKind.i64.wrap 0 = 0 := by decide
          simp [Builtin.append_, run_underlying ht, run_underlying htn, sizeOf, typeInfo, zeroValue, hi0, hz, hs, hb, asInt, asIntOf, hw0, hroom, Addr.add_lit, storeCells, hself, show l.length ≤ cap from by omega]
        · have hn : n ≠ 0 := by omega
          have hz2 : (zeroCells (Value.int IntKind.u8 0).cells n).toList = (List.replicate n (0 : UInt8)).map byteV := by
            rw [show (Value.int IntKind.u8 0).cells = #[.int .u8 0] from rfl, zeroCells_list]
          rw [List.map_replicate] at hst
          simp [Builtin.append_, run_underlying ht, run_underlying htn, sizeOf, typeInfo, zeroValue, hi0, hz, hs, hb, asInt, asIntOf, hw, hn, hneg, hroom, h48i, Addr.add_lit, hz2, hst]
      refine ⟨_, _, hrun, ⟨by simp, .inr ⟨g, cap, _, by simp, hbg, setRow_heap w g cur _ e _ hg, by simpa using hroom, hcm, ?_, ?_⟩⟩, ⟨rfl, rfl, rfl, by simp, fun k _ hk => setRow_other w g k _ (fun e => hk (by rw [e]))⟩, .inl rfl⟩
      · simp only [List.size_toArray, List.length_append, List.length_take, List.length_drop, Array.length_toList, hcr]
        omega
      · rw [Nat.mul_one] at htake ⊢
        rw [htake, List.map_append, List.length_append, List.length_replicate]
        simp only [List.append_assoc]
        rw [← List.append_assoc]
        exact List.take_left' (by simp)
    · have hn : n ≠ 0 := by omega
      have hnl : ¬ (l.length + n ≤ cap) := hroom
      have h63' : ¬ (9223372036854775807 < (l.length : Int) + (n : Int)) := by omega
      have hfc : (firstCells 1 l.length (.slice (some ⟨g, 0, none⟩) l.length cap)).run P w.drew = .ok (l.map byteV).toArray w.drew :=
        run_firstCells_some (P := P) w.drew 1 l.length ⟨g, 0, none⟩ l.length cap (l.map byteV) (by simp) (World.ownsRow.cells hown (g := g) rfl)
      have h48' : ¬ (281474976710656 < Builtin.nextslicecap (l.length + n) cap) := by
        have := nextslicecap_le (need := l.length + n) (old := cap) (by omega)
        have hc2 : cap < l.length + n := by omega
        omega
      have hge := grownCap_ge w (l.length + n) cap e
      have hle := grownCap_le_maxLen w (l.length + n) cap e (by unfold maxLen; omega)
      have hrun : (Builtin.append_ #[t, tn] ty #[.slice (some ⟨g, 0, none⟩) l.length cap, .int kn n]).run P w = .ok (.slice (some ⟨w.heap.size, 0, none⟩) (l.length + n) (grownCap w (l.length + n) cap e)) (w.drew.alloc (.cells ((l.map byteV).toArray ++ Builtin.zeroCells #[.int .u8 0] n ++ Builtin.zeroCells #[.int .u8 0] (grownCap w (l.length + n) cap e - (l.length + n))) e)) := by
        simp [Builtin.append_, run_underlying ht, run_underlying htn, sizeOf, typeInfo, zeroValue, hi0, hz, hs, hb, asInt, asIntOf, hw, hn, hneg, hnl, h63', h48', h48i, Question.forced, newRow, grownCap, hfc]
        rfl
      refine ⟨_, _, hrun, ⟨by simp, .inr ⟨w.heap.size, grownCap w (l.length + n) cap e, _, by simp, hbase, heap_alloc_new w.drew _, by simpa using hge, hle, ?_, ?_⟩⟩, ⟨rfl, rfl, rfl, by simp, fun k hk _ => Below.heap_alloc w.drew _ k hk⟩, .inr rfl⟩
      · simp [zeroCells_list]
        omega
      · rw [zeroCells_list, zeroCells_list, Nat.mul_one]
        simp only [List.append_toArray, List.map_append, List.length_append, List.length_replicate]
        exact List.take_left' (by simp)
theorem wpList_append_zeros {P : Program} {w : World} {ops : Array Oper} {rest : List Oper} {o : Oper} {a : Act} {Q : Exit → Act → World → Prop} (hgd : o.guard = none) (s x : Operand) (t tn : TypeId)
    (ho : o.op = .call { callee := .builtin .append, args := #[s, x], argTypes := #[t, tn] }) (base g cap : Nat) (e : TypeId) (kn : IntKind) (ht : P.underlying t = some (.slice e)) (htn : P.underlying tn = some (.int kn)) (hi : ByteInfo P e)
    (l : List UInt8) (m : Nat) (hl : l.length = m) (hs : a.eval s = .slice (some ⟨g, 0, none⟩) m cap) (hown : Own e w base (.slice (some ⟨g, 0, none⟩) m cap) l) (n : Nat) (hx : a.eval x = .int kn n) (hm : m + n ≤ 1000000000) (hbase : base ≤ w.heap.size)
    (h : ∀ v' w', Own e w' base v' (l ++ List.replicate n 0) → w.grownBy w' (some g) → (v'.ownBlock = some g ∨ v'.ownBlock = some w.heap.size) → wpList P ops Q rest (a.put o.dst v') w') : wpList P ops Q (o :: rest) a w := by
  obtain ⟨v', w', hr, h1, h2, h3⟩ := run_append_zeros_own (P := P) w base g cap t tn o.type e kn ht htn hi l m hl hown n hm hbase
  exact Lib.wpList_append_run w hgd s x t tn ho _ _ hs hx v' w' hr (h v' w' h1 h2 h3)
end Go.Proofs.Ytfconncnccgenaa
