/- Route: rows that take on a row, be it empty. -/
import Derived.Test.YtloiaaolnfimgaaGreatRqe
import Derived.Test.YtloiaaolnfimgaaGreatRo
import Derived.Test.YtloiaaolnfimgaaGreatRk16
set_option linter.unusedVariables false
set_option linter.unusedSimpArgs false
namespace Go.Proofs.YtloiaaolnfimgaaGreat
open Go.RowKit Rt
theorem run_append_none {P : Program} (w : World) (base : Nat) (t ty U : TypeId) (z : Nat) (i : TypeInfo) (ht : P.underlying t = some (.slice U)) (hi : P.info? U = some i) (v : Value) (n : Nat) (xs : List Value) (hown : w.ownsRow base U z v n xs) (c : Nat) :
    (Builtin.append_ #[t, t] ty #[v, .slice none 0 c]).run P w = .ok v w := by
  rcases hown.2 with ⟨rfl, hn⟩ | ⟨g, cap, cur, rfl, _, _, hnc, _⟩
  · simp [Builtin.append_, run_underlying ht, sizeOf, typeInfo, hi, Builtin.lenOf, Builtin.firstCells]
  · simp [Builtin.append_, run_underlying ht, sizeOf, typeInfo, hi, Builtin.lenOf, Builtin.firstCells, hnc, storeCells]
theorem wpList_append_ga {T U : TypeId} {z bytes : Nat} {zv : Value} (hU : Tryz.prog.underlying T = some (.slice U)) (hI : (Tryz.prog.info? U).map (fun i => (i.zero, i.size, i.bytes)) = some (some zv, z, bytes)) (hzv : zv.cells.size = z) (hz0 : 0 < z) (hby : bytes ≤ 100000)
    {w : World} {ops : Array Oper} {rest : List Oper} {o : Oper} {a : Act} {Q : Exit → Act → World → Prop} (hgd : o.guard = none) (s x : Operand)
    (ho : o.op = .call { callee := .builtin .append, args := #[s, x], argTypes := #[T, T] })
    (base : Nat) (v : Value) (ls : List (List Value)) (hs : a.eval s = v) (hown : OwnG U z w base v ls) (A : Option Addr) (m c : Nat) (ks : List (List Value)) (hk : ∀ l ∈ ks, l.length = z ∧ ∀ u ∈ l, u.oneCell' = true) (hx : a.eval x = .slice A m c) (hm : ks.length = m) (hr : Recs z w A ks)
    (hl : ls.length + m ≤ 1000000000) (hbase : base ≤ w.heap.size)
    (h : ∀ v' w', OwnG U z w' base v' (ls ++ ks) → w.grownBy w' v.ownBlock → (v'.ownBlock = v.ownBlock ∨ v'.ownBlock = some w.heap.size) → wpList Tryz.prog ops Q rest (a.put o.dst v') w') : wpList Tryz.prog ops Q (o :: rest) a w := by
  by_cases hne : ks = []
  · subst hne
    subst hm
    obtain ⟨i, hi, he⟩ := Option.map_eq_some_iff.1 hI
    injection he with hz he
    injection he with hsz hby'
    refine wpList_plain hgd fun _ hK => ?_
    have hl0 : ls.length + 0 ≤ 1000000000 := hl
    have hml : ls.length + 0 ≤ maxLen := Nat.le_trans hl0 (by decide)
    have hmb : (ls.length + 0) * bytes ≤ 140737488355328 := Nat.le_trans (Nat.mul_le_mul hl0 hby) (by decide)
    have key : ∃ v' w', (Builtin.append_ #[T, T] o.type #[v, .slice A 0 c]).run Tryz.prog w = .ok v' w' ∧ OwnG U z w' base v' (ls ++ []) ∧ w.grownBy w' v.ownBlock ∧ (v'.ownBlock = v.ownBlock ∨ v'.ownBlock = some w.heap.size) := by
      rcases A with _ | ad
      · exact ⟨v, w, run_append_none w base T o.type U z i hU hi v _ _ hown.2 c, by rw [List.append_nil]; exact hown, World.grownBy.refl _ _, .inl rfl⟩
      · obtain ⟨v', w', h1, h2, h3, _, h5⟩ := run_append_own_at (P := Tryz.prog) w base T o.type U i _ z bytes hU hi hz hsz hby' hzv hz0 v ls.length ls.flatten hown.2 ad 0 c [] (by simp) (fun j u hu => by simp at hu) (fun u hu => by simp at hu) hml hmb hbase
        exact ⟨v', w', h1, by rw [List.append_nil]; exact ⟨hown.1, by simpa using h2⟩, h3, h5⟩
    obtain ⟨v', w', hr', h2, h3, h4⟩ := key
    unfold Oper.wp execOp
    simp only [ho, resolve, invoke, builtin, Sem.run_bind, Sem.run_pure, Result.andThen_ok, List.map_toArray, List.map_cons, List.map_nil, hs, hx, List.length_nil, hr']
    exact hK _ _ (h v' w' h2 h3 h4)
  · exact wpList_append_g hU hI hzv hz0 hby hgd s x ho base v ls hs hown A m c ks hk hx hm hr hne hl hbase h
theorem infoEdgeG : (Tryz.prog.info? 44).map (fun i => (i.zero, i.size, i.bytes)) = some (some (Value.agg (edgeC noEdge)), 67, 88) := by kernel_rfl
theorem edgeL_ok {e : Rt.Edge} (hw : e.wf) : (edgeL e).length = 67 ∧ ∀ u ∈ edgeL e, u.oneCell' = true := ⟨edgeL_len hw, edgeL_one e⟩
def edge77 : Rt.Edge := ⟨zh, zh, 0, 0, 77⟩
theorem edge77_wf : edge77.wf := ⟨zh_len, zh_len⟩
theorem noEdge_wf : noEdge.wf := ⟨zh_len, zh_len⟩
theorem build77 (w : World) : (Instr.build 44 #[(3, .int .i64 77)]).run Tryz.prog w = .ok (.agg (edgeC edge77)) w := by kernel_rfl
theorem buildE0 (w : World) : (Instr.buildSlice 40 0 #[]).run Tryz.prog w = .ok (.slice (some ⟨w.heap.size, 0, none⟩) 0 0) (w.alloc (.cells #[] 44)) := by kernel_rfl
theorem buildE1 (w : World) : (Instr.buildSlice 40 1 #[(0, .agg (edgeC edge77))]).run Tryz.prog w = .ok (.slice (some ⟨w.heap.size, 0, none⟩) 1 1) (w.alloc (.cells (edgeC edge77) 44)) := by kernel_rfl
end Go.Proofs.YtloiaaolnfimgaaGreat
