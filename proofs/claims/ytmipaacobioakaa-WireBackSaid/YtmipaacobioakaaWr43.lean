/- Rows of calls and of numbers that grow. -/
import Derived.Test.YtmipaacobioakaaWr42
set_option linter.unusedVariables false
set_option linter.unusedSimpArgs false
namespace Go.Proofs.Ytmipaacobioakaa
open Go.RowKit Go.ChangeShapes Go.WideShapes Go.ChangeAt
/-- A call, and where its slices lie. -/
structure ActR where
  x : ActL
  A1 : Option Addr
  A2 : Option Addr
  A3 : Option Addr
  c1 : Nat
  c2 : Nat
  c3 : Nat
def ActR.cells (d : ActR) : Array Value := actA d.x d.A1 d.A2 d.A3 d.c1 d.c2 d.c3
def ActR.ok (w : World) (d : ActR) : Prop := ActOk w d.x d.A1 d.A2 d.A3 d.c1 d.c2 d.c3
def actsC (ds : List ActR) : List Value := (ds.map fun d => d.cells.toList).flatten
theorem actsC_len : ∀ ds : List ActR, (actsC ds).length = ds.length * 5
  | [] => rfl
  | d :: ds => by
    have := actsC_len ds
    unfold actsC at *
    rw [List.map_cons, List.flatten_cons, List.length_append, this]
    simp [ActR.cells]
    omega
theorem actsC_snoc (ds : List ActR) (d : ActR) : actsC (ds ++ [d]) = actsC ds ++ d.cells.toList := by simp [actsC]
theorem actsC_at : ∀ (ds : List ActR) (k : Nat) (h : k < ds.length) (j : Nat), j < 5 → (actsC ds)[k * 5 + j]? = ds[k].cells.toList[j]?
  | d :: ds, 0, _, j, hj => by
    unfold actsC
    rw [List.map_cons, List.flatten_cons, Nat.zero_mul, Nat.zero_add, List.getElem?_append_left (by simp [ActR.cells]; exact hj)]
    rfl
  | d :: ds, k + 1, h, j, hj => by
    have ih := actsC_at ds k (by simpa using h) j hj
    unfold actsC at *
    rw [List.map_cons, List.flatten_cons, List.getElem?_append_right (by simp [ActR.cells]; omega)]
    rw [show (k + 1) * 5 + j - d.cells.toList.length = k * 5 + j by simp [ActR.cells]; omega]
    simpa using ih
/-- A row of calls that is ours. -/
def OwnActs (w : World) (base : Nat) (v : Value) (ds : List ActR) : Prop := w.ownsRow base 67 5 v ds.length (actsC ds)
theorem OwnActs.nil (w : World) (base : Nat) : OwnActs w base (.slice none 0 0) [] := ⟨rfl, .inl ⟨rfl, rfl⟩⟩
theorem OwnActs.at_ {w : World} {base : Nat} {v : Value} {ds : List ActR} (h : OwnActs w base v ds) : ∀ k, v.ownBlock = some k → base ≤ k ∧ k < w.heap.size := World.ownsRow.lt h
theorem OwnActs.keep {w w' : World} {base : Nat} {v : Value} {ds : List ActR} (h : OwnActs w base v ds) (hk : ∀ b, b < w.heap.size → v.ownBlock = some b → w'.heap[b]? = w.heap[b]?) : OwnActs w' base v ds := by
  obtain ⟨h1, h2⟩ := h
  refine ⟨h1, ?_⟩
  rcases h2 with h2 | ⟨g, cap, cur, e, hb, hh, hr⟩
  · exact .inl h2
  · exact .inr ⟨g, cap, cur, e, hb, (hk g (Array.getElem?_eq_some_iff.1 hh).1 (by rw [e]; rfl)).trans hh, hr⟩
theorem OwnActs.later {w w' : World} {base : Nat} {v : Value} {ds : List ActR} (h : OwnActs w base v ds) (hL : Later w w') : OwnActs w' base v ds := h.keep fun b hb _ => Below.block hL b hb
theorem OwnActs.slice {w : World} {base : Nat} {v : Value} {ds : List ActR} (h : OwnActs w base v ds) : ∃ A c, v = .slice A ds.length c ∧ ∀ k (hk : k < ds.length), ∃ b, A = some ⟨b, 0, none⟩ ∧ w.rangeAt b (k * 5) ds[k].cells.toList := by
  rcases h.2 with ⟨rfl, hn⟩ | ⟨g, cap, cur, rfl, hb, hh, hn, hc, hs, ht⟩
  · have : ds = [] := List.eq_nil_of_length_eq_zero hn
    subst this
    exact ⟨none, 0, rfl, fun k hk => absurd hk (by simp)⟩
  · refine ⟨_, cap, rfl, fun k hk => ⟨g, rfl, fun j v hv => ?_⟩⟩
    have hj : j < 5 := by have := (List.getElem?_eq_some_iff.1 hv).1; simpa [ActR.cells] using this
    have := World.ownsRow.cells h (g := g) rfl (k * 5 + j) v (by rw [actsC_at ds k hk j hj]; exact hv)
    rwa [addr_add, Nat.zero_add] at this
theorem infoActF : (Try.prog.info? 67).map (fun i => (i.zero, i.size, i.bytes)) = some (some (.agg #[.int .i64 0, .slice none 0 0, .slice none 0 0, .slice none 0 0, .string ⟨#[]⟩]), 5, 96) := by kernel_rfl
theorem infoIntF : (Try.prog.info? 3).map (fun i => (i.zero, i.size, i.bytes)) = some (some (.int .i64 0), 1, 8) := by kernel_rfl
theorem wpList_append_act {w : World} {ops : Array Oper} {rest : List Oper} {o : Oper} {a : Act} {Q : Exit → Act → World → Prop} (hgd : o.guard = none) (s x : Operand)
    (ho : o.op = .call { callee := .builtin .append, args := #[s, x], argTypes := #[60, 60] })
    (base : Nat) (v : Value) (ds : List ActR) (hs : a.eval s = v) (hown : OwnActs w base v ds) (b c : Nat) (d : ActR) (hx : a.eval x = .slice (some ⟨b, 0, none⟩) 1 c) (hr : Row w b 67 d.cells)
    (hl : ds.length ≤ 1000) (hbase : base ≤ w.heap.size)
    (h : ∀ v' w', OwnActs w' base v' (ds ++ [d]) → w.grownBy w' v.ownBlock → (v'.ownBlock = v.ownBlock ∨ v'.ownBlock = some w.heap.size) → wpList Try.prog ops Q rest (a.put o.dst v') w') : wpList Try.prog ops Q (o :: rest) a w := by
  obtain ⟨i, hi, he⟩ := Option.map_eq_some_iff.1 infoActF
  injection he with hz he
  injection he with hsz hby
  refine wpList_append_own_at w hgd s x 60 ho base 67 i _ 5 96 Try.underlying60 hi hz hsz hby rfl (by decide) v ds.length (actsC ds) hs hown ⟨b, 0, none⟩ 1 c d.cells.toList hx (by simp [ActR.cells]) (fun j u hj => ?_) ?_ (by unfold maxLen; omega) (by omega) hbase
    fun v' w' h1 h2 _ h4 => h v' w' (by unfold OwnActs; rw [List.length_append, actsC_snoc]; exact h1) h2 h4
  · rw [Array.getElem?_toList] at hj
    rw [addr_add, Nat.zero_add]
    exact (hr.cell j).trans hj
  · intro u hu
    simp [ActR.cells] at hu
    rcases hu with rfl | rfl | rfl | rfl | rfl <;> rfl
theorem Acts.later {w w' : World} {A : Option Addr} {xs : List ActL} (h : Acts w A xs) (hb : Later w w') : Acts w' A xs := fun hne => by
  obtain ⟨b, o, e, hc⟩ := h hne
  refine ⟨b, o, e, fun i hi => ?_⟩
  obtain ⟨A1, A2, A3, c1, c2, c3, h1, h2⟩ := hc i hi
  exact ⟨A1, A2, A3, c1, c2, c3, range_later h1 hb, h2.below hb⟩
/-- A row of numbers that is ours. -/
def OwnInts (w : World) (base : Nat) (v : Value) (zs : List Int) : Prop := w.ownsRow base 3 1 v zs.length (zs.map (Value.int .i64))
theorem OwnInts.nil (w : World) (base : Nat) : OwnInts w base (.slice none 0 0) [] := ⟨rfl, .inl ⟨rfl, rfl⟩⟩
theorem OwnInts.at_ {w : World} {base : Nat} {v : Value} {zs : List Int} (h : OwnInts w base v zs) : ∀ k, v.ownBlock = some k → base ≤ k ∧ k < w.heap.size := World.ownsRow.lt h
theorem OwnInts.keep {w w' : World} {base : Nat} {v : Value} {zs : List Int} (h : OwnInts w base v zs) (hk : ∀ b, b < w.heap.size → v.ownBlock = some b → w'.heap[b]? = w.heap[b]?) : OwnInts w' base v zs := by
  obtain ⟨h1, h2⟩ := h
  refine ⟨h1, ?_⟩
  rcases h2 with h2 | ⟨g, cap, cur, e, hb, hh, hr⟩
  · exact .inl h2
  · exact .inr ⟨g, cap, cur, e, hb, (hk g (Array.getElem?_eq_some_iff.1 hh).1 (by rw [e]; rfl)).trans hh, hr⟩
theorem OwnInts.later {w w' : World} {base : Nat} {v : Value} {zs : List Int} (h : OwnInts w base v zs) (hL : Later w w') : OwnInts w' base v zs := h.keep fun b hb _ => Below.block hL b hb
theorem OwnInts.slice {w : World} {base : Nat} {v : Value} {zs : List Int} (h : OwnInts w base v zs) : ∃ A c, v = .slice A zs.length c ∧ ∀ k (hk : k < zs.length), ∃ b, A = some ⟨b, 0, none⟩ ∧ w.cell? ⟨b, k, none⟩ = some (.int .i64 zs[k]) := by
  rcases h.2 with ⟨rfl, hn⟩ | ⟨g, cap, cur, rfl, hb, hh, hn, hc, hs, ht⟩
  · have : zs = [] := List.eq_nil_of_length_eq_zero hn
    subst this
    exact ⟨none, 0, rfl, fun k hk => absurd hk (by simp)⟩
  · refine ⟨_, cap, rfl, fun k hk => ⟨g, rfl, ?_⟩⟩
    have := World.ownsRow.cells h (g := g) rfl k (.int .i64 zs[k]) (by simp [hk])
    rwa [addr_add, Nat.zero_add] at this
theorem OwnInts.get {w : World} {base n c : Nat} {A : Option Addr} {zs : List Int} (h : OwnInts w base (.slice A n c) zs) (k : Nat) (hk : k < zs.length) : ∃ b, A = some ⟨b, 0, none⟩ ∧ base ≤ b ∧ b < w.heap.size ∧ w.cell? ⟨b, k, none⟩ = some (.int .i64 zs[k]) := by
  obtain ⟨A', c', e, hc⟩ := h.slice
  obtain ⟨b, e2, hcell⟩ := hc k hk
  injection e with e1
  subst e1
  subst e2
  exact ⟨b, rfl, (h.at_ b rfl).1, (h.at_ b rfl).2, hcell⟩
theorem wpList_append_int {w : World} {ops : Array Oper} {rest : List Oper} {o : Oper} {a : Act} {Q : Exit → Act → World → Prop} (hgd : o.guard = none) (s x : Operand)
    (ho : o.op = .call { callee := .builtin .append, args := #[s, x], argTypes := #[92, 92] })
    (base : Nat) (v : Value) (zs : List Int) (hs : a.eval s = v) (hown : OwnInts w base v zs) (b c : Nat) (z : Int) (hx : a.eval x = .slice (some ⟨b, 0, none⟩) 1 c) (hr : Row w b 3 #[.int .i64 z])
    (hl : zs.length ≤ 1000) (hbase : base ≤ w.heap.size)
    (h : ∀ v' w', OwnInts w' base v' (zs ++ [z]) → w.grownBy w' v.ownBlock → (v'.ownBlock = v.ownBlock ∨ v'.ownBlock = some w.heap.size) → wpList Try.prog ops Q rest (a.put o.dst v') w') : wpList Try.prog ops Q (o :: rest) a w := by
  obtain ⟨i, hi, he⟩ := Option.map_eq_some_iff.1 infoIntF
  injection he with hz he
  injection he with hsz hby
  refine wpList_append_own_at w hgd s x 92 ho base 3 i _ 1 8 Try.underlying92 hi hz hsz hby rfl (by decide) v zs.length _ hs hown ⟨b, 0, none⟩ 1 c [.int .i64 z] hx (by simp) (fun j u hj => ?_) ?_ (by unfold maxLen; omega) (by omega) hbase
    fun v' w' h1 h2 _ h4 => h v' w' (by unfold OwnInts; rw [List.length_append, List.map_append]; exact h1) h2 h4
  · match j, hj with
    | 0, hj =>
      simp at hj
      subst hj
      simpa [Addr.add] using (hr.cell 0).trans rfl
  · intro u hu
    simp at hu
    subst hu
    rfl
theorem buildAct (d : ActR) (w : World) : (Instr.buildSlice 60 1 #[(0, .agg d.cells)]).run Try.prog w = .ok (.slice (some ⟨w.heap.size, 0, none⟩) 1 1) (w.alloc (.cells d.cells 67)) := by
  unfold ActR.cells
  kernel_rfl
theorem buildInt (z : Int) (w : World) : (Instr.buildSlice 92 1 #[(0, .int .i64 z)]).run Try.prog w = .ok (.slice (some ⟨w.heap.size, 0, none⟩) 1 1) (w.alloc (.cells #[.int .i64 z] 3)) := by kernel_rfl
theorem Wr.lay_none {x : ActL} (h : Wr.layNo x ≠ 0) : Wr.lay x = [] := by
  unfold Wr.layNo at h
  unfold Wr.lay
  split at h
  · rename_i h0
    split at h
    · rename_i h1
      rw [if_pos h0, if_pos h1]
    · exact absurd rfl h
  · exact absurd rfl h
/-- What was laid by these calls. -/
def Wr.laid (ds : List ActR) : List UInt8 := (ds.map fun d => Wr.lay d.x).flatten
theorem Wr.laid_snoc (ds : List ActR) (d : ActR) : Wr.laid (ds ++ [d]) = Wr.laid ds ++ Wr.lay d.x := by simp [Wr.laid]
theorem Wr.laid_drop (ds : List ActR) (k : Nat) (h : k < ds.length) : Wr.laid (ds.drop k) = Wr.lay ds[k].x ++ Wr.laid (ds.drop (k + 1)) := by
  unfold Wr.laid
  rw [List.drop_eq_getElem_cons h, List.map_cons, List.flatten_cons]
theorem Wr.laid_len : ∀ ds : List ActR, (∀ d ∈ ds, (Wr.lay d.x).length ≤ 400) → (Wr.laid ds).length ≤ 400 * ds.length
  | [], _ => by simp [Wr.laid]
  | d :: ds, h => by
    have h1 := h d (by simp)
    have h2 := Wr.laid_len ds fun y hy => h y (by simp [hy])
    unfold Wr.laid at *
    simp only [List.map_cons, List.flatten_cons, List.length_append, List.length_cons]
    omega
theorem Wr.fr_len : ∀ l : List (List UInt8), (∀ t ∈ l, t.length ≤ 100) → (Wr.fr l).length ≤ 105 * l.length
  | [], _ => by simp [Wr.fr]
  | t :: l, h => by
    have h1 := h t (by simp)
    have h2 := Wr.fr_len l fun y hy => h y (by simp [hy])
    have h3 := Wr.frame_len t h1
    unfold Wr.fr at *
    simp only [List.map_cons, List.flatten_cons, List.length_append, List.length_cons]
    omega
end Go.Proofs.Ytmipaacobioakaa
