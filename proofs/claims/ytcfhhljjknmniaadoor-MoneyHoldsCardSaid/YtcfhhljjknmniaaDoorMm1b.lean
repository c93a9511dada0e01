/- money: rows of numbers that grow. -/
import Derived.Test.YtcfhhljjknmniaaDoorMm1
set_option linter.unusedVariables false
set_option linter.unusedSimpArgs false
namespace Go.Proofs.YtcfhhljjknmniaaDoor
open Go.RowKit
def OwnZ (w : World) (base : Nat) (v : Value) (zs : List Int) : Prop := w.ownsRow base 2 1 v zs.length (zs.map numV)
theorem OwnZ.at_ {w : World} {base : Nat} {v : Value} {zs : List Int} (h : OwnZ w base v zs) : ∀ k, v.ownBlock = some k → base ≤ k ∧ k < w.heap.size := World.ownsRow.lt h
theorem OwnZ.keep {w w' : World} {base : Nat} {v : Value} {zs : List Int} (h : OwnZ w base v zs) (hk : ∀ b, b < w.heap.size → v.ownBlock = some b → w'.heap[b]? = w.heap[b]?) : OwnZ w' base v zs := by
  obtain ⟨h1, h2⟩ := h
  refine ⟨h1, ?_⟩
  rcases h2 with h2 | ⟨g, cap, cur, e, hb, hh, hr⟩
  · exact .inl h2
  · exact .inr ⟨g, cap, cur, e, hb, (hk g (Array.getElem?_eq_some_iff.1 hh).1 (by rw [e]; rfl)).trans hh, hr⟩
theorem OwnZ.later {w w' : World} {base : Nat} {v : Value} {zs : List Int} (h : OwnZ w base v zs) (hL : Later w w') : OwnZ w' base v zs := h.keep fun b hb _ => Below.block hL b hb
theorem OwnZ.nil (w : World) (base : Nat) : OwnZ w base (.slice none 0 0) [] := ⟨rfl, .inl ⟨rfl, rfl⟩⟩
theorem OwnZ.slice {w : World} {base : Nat} {v : Value} {zs : List Int} (h : OwnZ w base v zs) : ∃ A c, v = .slice A zs.length c ∧ zs.length ≤ c ∧ c ≤ maxLen ∧ RdV w A (zs.map numV) := by
  obtain ⟨h1, h2⟩ := h
  rcases h2 with ⟨rfl, hn⟩ | ⟨g, cap, cur, rfl, hb, hh, hn, hc, hs, ht⟩
  · have : zs = [] := List.eq_nil_of_length_eq_zero hn
    subst this
    exact ⟨none, 0, rfl, Nat.le_refl _, Nat.zero_le _, RdV.nil _ _⟩
  · refine ⟨_, cap, rfl, hn, hc, fun _ => ⟨g, 0, rfl, fun i hi => ?_⟩⟩
    have e := cell_of_row w g (0 + i) cur 2 (0, 0) hh
    have hi' : i < zs.length := by simpa using hi
    rw [e, Nat.zero_add]
    have h3 : (cur.toList.take (zs.length * 1))[i]? = (zs.map numV)[i]? := by rw [ht]
    rw [List.getElem?_take_of_lt (by omega), Array.getElem?_toList] at h3
    rw [h3, List.getElem?_eq_getElem hi]
/-- A row of just these. -/
theorem OwnZ.row {w : World} {g base : Nat} {zs : List Int} (h : Row w g 2 (zs.map numV).toArray) (hb : base ≤ g) (hm : zs.length ≤ maxLen) : OwnZ w base (.slice (some ⟨g, 0, none⟩) zs.length zs.length) zs :=
  ⟨by simp, .inr ⟨g, zs.length, _, rfl, hb, h, Nat.le_refl _, hm, by simp, by simp [List.take_of_length_le]⟩⟩
theorem infoZ : (Tryd.prog.info? 2).map (fun i => (i.zero, i.size, i.bytes)) = some (some (.int .i64 0), 1, 8) := by kernel_rfl
set_option maxRecDepth 100000 in
theorem run_append_ints (w : World) (base : Nat) (ty : TypeId) (v : Value) (l : List Int) (hown : OwnZ w base v l)
    (A : Option Addr) (m c : Nat) (k : List Int) (hm : k.length = m) (hr : RdV w A (k.map numV)) (hlen : l.length + m ≤ 10000000000) (hbase : base ≤ w.heap.size) :
    ∃ v' w', (Builtin.append_ #[22, 22] ty #[v, .slice A m c]).run Tryd.prog w = .ok v' w' ∧ OwnZ w' base v' (l ++ k) ∧ w.grownBy w' v.ownBlock ∧ (v'.ownBlock = v.ownBlock ∨ v'.ownBlock = some w.heap.size) := by
  obtain ⟨i, hi0, he⟩ := Option.map_eq_some_iff.1 infoZ
  injection he with hz he
  injection he with hs hb
  subst hm
  rcases A with _ | ad
  · have hk : k = [] := by
      rcases k with _ | ⟨x, k⟩
      · rfl
      · obtain ⟨b, o, e, _⟩ := hr (by simp)
        cases e
    subst hk
    refine ⟨v, w, ?_, by simpa using hown, ⟨rfl, rfl, rfl, Nat.le_refl _, fun _ _ _ => rfl⟩, .inl rfl⟩
    rcases hown.2 with ⟨rfl, hn⟩ | ⟨g, cap, cur, rfl, _, _, hnc, _⟩
    · simp [Builtin.append_, run_underlying Tryd.underlying22, sizeOf, typeInfo, hi0, Builtin.lenOf, Builtin.firstCells]
    · simp [Builtin.append_, run_underlying Tryd.underlying22, sizeOf, typeInfo, hi0, Builtin.lenOf, Builtin.firstCells, hnc, storeCells]
  · obtain ⟨v', w', h1, h2, h3, _, h5⟩ := run_append_own_at (P := Tryd.prog) w base 22 ty 2 i _ 1 8 Tryd.underlying22 hi0 hz hs hb rfl (by omega) v l.length (l.map numV) hown ad k.length c (k.map numV) (by simp)
      (fun j u hu => by
        rw [List.getElem?_map] at hu
        have hj : j < k.length := by
          rcases Nat.lt_or_ge j k.length with h | h
          · exact h
          · rw [List.getElem?_eq_none h] at hu; cases hu
        rw [List.getElem?_eq_getElem hj] at hu
        obtain ⟨b, o, e, hc⟩ := hr (by intro e; rw [List.map_eq_nil_iff] at e; subst e; simp at hj)
        injection e with e
        subst e
        rw [Option.map_some] at hu
        have hcj := hc j (by simpa using hj)
        rw [List.getElem_map] at hcj
        rw [← hu, ← hcj]
        rcases Nat.eq_zero_or_pos j with rfl | hp
        · rfl
        · simp [Addr.add, Nat.ne_of_gt hp])
      (fun u hu => by obtain ⟨x, _, rfl⟩ := List.mem_map.1 hu; rfl) (by unfold maxLen; omega) (by omega) hbase
    exact ⟨v', w', h1, by unfold OwnZ; rw [List.length_append, List.map_append]; exact h2, h3, h5⟩
set_option maxRecDepth 100000 in
theorem wpList_append_ints {w : World} {ops : Array Oper} {rest : List Oper} {o : Oper} {a : Act} {Q : Exit → Act → World → Prop} (hgd : o.guard = none) (s x : Operand)
    (ho : o.op = .call { callee := .builtin .append, args := #[s, x], argTypes := #[22, 22] }) (base : Nat)
    (v : Value) (l : List Int) (hs : a.eval s = v) (hown : OwnZ w base v l)
    (A : Option Addr) (m c : Nat) (k : List Int) (hx : a.eval x = .slice A m c) (hm : k.length = m) (hr : RdV w A (k.map numV)) (hlen : l.length + m ≤ 10000000000) (hbase : base ≤ w.heap.size)
    (h : ∀ v' w', OwnZ w' base v' (l ++ k) → w.grownBy w' v.ownBlock → (v'.ownBlock = v.ownBlock ∨ v'.ownBlock = some w.heap.size) → wpList Tryd.prog ops Q rest (a.put o.dst v') w') : wpList Tryd.prog ops Q (o :: rest) a w :=
  wpList_plain hgd fun _ hK => by
    obtain ⟨v', w', hr', h2, h3, h4⟩ := run_append_ints w base o.type v l hown A m c k hm hr hlen hbase
    unfold Oper.wp execOp
    simp only [ho, resolve, invoke, builtin, Sem.run_bind, Sem.run_pure, Result.andThen_ok, List.map_toArray, List.map_cons, List.map_nil, hs, hx, hr']
    exact hK _ _ (h v' w' h2 h3 h4)
theorem build1Z (x : Int) (W : World) : (Instr.buildSlice 22 1 #[(0, .int .i64 x)]).run Tryd.prog W = .ok (.slice (some ⟨W.heap.size, 0, none⟩) 1 1) (W.alloc (.cells #[.int .i64 x] 2)) := by kernel_rfl
theorem build2Z (x y : Int) (W : World) : (Instr.buildSlice 22 2 #[(0, .int .i64 x), (1, .int .i64 y)]).run Tryd.prog W = .ok (.slice (some ⟨W.heap.size, 0, none⟩) 2 2) (W.alloc (.cells #[.int .i64 x, .int .i64 y] 2)) := by kernel_rfl
theorem build3Z (x y z : Int) (W : World) : (Instr.buildSlice 22 3 #[(0, .int .i64 x), (1, .int .i64 y), (2, .int .i64 z)]).run Tryd.prog W = .ok (.slice (some ⟨W.heap.size, 0, none⟩) 3 3) (W.alloc (.cells #[.int .i64 x, .int .i64 y, .int .i64 z] 2)) := by kernel_rfl
theorem build0Z (W : World) : (Instr.buildSlice 22 0 #[]).run Tryd.prog W = .ok (.slice (some ⟨W.heap.size, 0, none⟩) 0 0) (W.alloc (.cells #[] 2)) := by kernel_rfl
theorem rd1Z (x : Int) (W : World) : RdV (W.alloc (.cells #[.int .i64 x] 2)) (some ⟨W.heap.size, 0, none⟩) ([x].map numV) := RdV.row (Row.new W 2 _)
theorem rd2Z (x y : Int) (W : World) : RdV (W.alloc (.cells #[.int .i64 x, .int .i64 y] 2)) (some ⟨W.heap.size, 0, none⟩) ([x, y].map numV) := RdV.row (Row.new W 2 _)
theorem rd3Z (x y z : Int) (W : World) : RdV (W.alloc (.cells #[.int .i64 x, .int .i64 y, .int .i64 z] 2)) (some ⟨W.heap.size, 0, none⟩) ([x, y, z].map numV) := RdV.row (Row.new W 2 _)
theorem own1Z (x : Int) (W : World) (base : Nat) (hb : base ≤ W.heap.size) : OwnZ (W.alloc (.cells #[.int .i64 x] 2)) base (.slice (some ⟨W.heap.size, 0, none⟩) 1 1) [x] := OwnZ.row (Row.new W 2 _) hb (Nat.le_of_ble_eq_true rfl)
theorem own0Z (W : World) (base : Nat) (hb : base ≤ W.heap.size) : OwnZ (W.alloc (.cells #[] 2)) base (.slice (some ⟨W.heap.size, 0, none⟩) 0 0) [] := OwnZ.row (Row.new W 2 _) hb (Nat.le_of_ble_eq_true rfl)
end Go.Proofs.YtcfhhljjknmniaaDoor
