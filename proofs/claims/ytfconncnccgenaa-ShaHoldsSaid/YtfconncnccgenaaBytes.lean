/- Bytes that a call makes: a row of its own that reads as a list; append onto it; draws alone. -/
import Derived.Test.YtfconncnccgenaaWords
import Derived.Lib.Hide
import Derived.OwnWalk
import Derived.Laws.IdiomStrings
import Derived.Lib.SlBytesConst
namespace Go.Proofs.Ytfconncnccgenaa
open Go.RowKit

/-- Nothing but draws. -/
def Drawn (w w' : World) : Prop := ∃ q, w' = w.drewN q
theorem Drawn.refl (w : World) : Drawn w w := ⟨0, rfl⟩
theorem Drawn.drew {w w' : World} (h : Drawn w w') : Drawn w w'.drew := by
  obtain ⟨q, rfl⟩ := h; exact ⟨q + 1, rfl⟩
theorem Drawn.drewN {w w' : World} (h : Drawn w w') (n : Nat) : Drawn w (w'.drewN n) := by
  obtain ⟨q, rfl⟩ := h; exact ⟨q + n, by simp [World.drewN, Nat.add_assoc]⟩
theorem Drawn.trans {a b c : World} (h : Drawn a b) (k : Drawn b c) : Drawn a c := by
  obtain ⟨q, rfl⟩ := k; exact h.drewN q
theorem Drawn.cell {w w' : World} (h : Drawn w w') (p : Addr) : w'.cell? p = w.cell? p := by
  obtain ⟨q, rfl⟩ := h; rfl
theorem Drawn.heap {w w' : World} (h : Drawn w w') : w'.heap = w.heap := by
  obtain ⟨q, rfl⟩ := h; rfl
theorem Drawn.below {w w' : World} (h : Drawn w w') (B : Nat) : Below B w w' := by
  obtain ⟨q, rfl⟩ := h; exact ⟨rfl, rfl, rfl, Nat.le_refl _, fun _ _ => rfl⟩

/-- A row of the call's own that reads as bytes. -/
def Own (U : TypeId) (w : World) (base : Nat) (v : Value) (l : List UInt8) : Prop := w.ownsRow base U 1 v l.length (l.map byteV)
section
variable {U : TypeId} {w w' : World} {base : Nat} {v : Value} {l : List UInt8}
theorem Own.nil (U : TypeId) (w : World) (base : Nat) : Own U w base (.slice none 0 0) [] := ⟨rfl, .inl ⟨rfl, rfl⟩⟩
theorem Own.alloc (h : Own U w base v l) (o : Obj) : Own U (w.alloc o) base v l := World.ownsRow.alloc h o
theorem Own.drew (h : Own U w base v l) : Own U w.drew base v l := h
theorem Own.drewN (h : Own U w base v l) (n : Nat) : Own U (w.drewN n) base v l := h
theorem Own.slice (h : Own U w base v l) : ∃ A c, v = .slice A l.length c ∧ l.length ≤ c ∧ c ≤ maxLen ∧ Rd w A l := by
  obtain ⟨h1, h2⟩ := h
  rcases h2 with ⟨rfl, hn⟩ | ⟨g, cap, cur, rfl, hb, hh, hn, hc, hs, ht⟩
  · have : l = [] := List.eq_nil_of_length_eq_zero hn
    subst this
    exact ⟨none, 0, rfl, Nat.le_refl _, Nat.zero_le _, Rd.nil _ _⟩
  · refine ⟨_, cap, rfl, hn, hc, fun _ => ⟨g, 0, rfl, fun i hi => ?_⟩⟩
    have e := cell_of_row w g (0 + i) cur U (0, 0) hh
    rw [e, Nat.zero_add]
    have h3 : (cur.toList.take (l.length * 1))[i]? = (l.map byteV)[i]? := by rw [ht]
    rw [List.getElem?_take_of_lt (by omega), Array.getElem?_toList] at h3
    rw [h3, List.getElem?_map, List.getElem?_eq_getElem hi]; rfl
theorem Own.keep (h : Own U w base v l) (hk : ∀ b, b < w.heap.size → v.ownBlock = some b → w'.heap[b]? = w.heap[b]?) : Own U w' base v l := by
  obtain ⟨h1, h2⟩ := h
  refine ⟨h1, ?_⟩
  rcases h2 with ⟨rfl, hn⟩ | ⟨g, cap, cur, rfl, hb, hh, hr⟩
  · exact .inl ⟨rfl, hn⟩
  · exact .inr ⟨g, cap, cur, rfl, hb, by rw [hk g (Array.getElem?_eq_some_iff.1 hh).1 rfl]; exact hh, hr⟩
theorem Own.below (h : Own U w base v l) (hb : Below w.heap.size w w') : Own U w' base v l := h.keep fun b hb' _ => hb.block b hb'
theorem Own.mono (h : Own U w base v l) {b' : Nat} (hb : b' ≤ base) : Own U w b' v l := by
  obtain ⟨h1, h2⟩ := h
  refine ⟨h1, ?_⟩
  rcases h2 with ⟨rfl, hn⟩ | ⟨g, cap, cur, rfl, hb2, hr⟩
  · exact .inl ⟨rfl, hn⟩
  · exact .inr ⟨g, cap, cur, rfl, by omega, hr⟩
theorem Own.at_ (h : Own U w base v l) : ∀ k, v.ownBlock = some k → base ≤ k ∧ k < w.heap.size := World.ownsRow.lt h
end

theorem Rd.grown {w w' : World} {A : Option Addr} {l : List UInt8} {row : Option Nat} (h : Rd w A l) (hg : w.grownBy w' row) (hn : ∀ b o, A = some ⟨b, o, none⟩ → l ≠ [] → some b ≠ row) : Rd w' A l := fun hl => by
  obtain ⟨b, o, e, hc⟩ := h hl
  refine ⟨b, o, e, fun i hi => ?_⟩
  have hb := block_lt_of_cell (hc i hi)
  rw [World.cell?_of_block (w := w) (hg.block b hb (hn b o e hl))]
  exact hc i hi

theorem Rd.lit (w : World) (t : TypeId) (l : List UInt8) : Rd (w.alloc (.cells (l.map byteV).toArray t)) (some ⟨w.heap.size, 0, none⟩) l := fun _ =>
  ⟨_, _, rfl, fun i hi => by
    rw [(Row.new w t _).cell]
    simp [hi]⟩
theorem Rd.mark (w : World) (t : TypeId) (fr : Nat × Nat) (l : List UInt8) : Rd (w.alloc (.cells (l.map byteV).toArray t fr)) (some ⟨w.heap.size, 0, none⟩) l := fun _ =>
  ⟨_, _, rfl, fun i hi => by
    rw [World.cell?_alloc_mark]
    simp [hi]⟩
theorem Rds.one {w : World} {A : Option Addr} {n c : Nat} {l : List UInt8} (t : TypeId) (h : Rd w A l) (hn : l.length = n) : Rds (w.alloc (.cells #[.slice A n c] t)) (some ⟨w.heap.size, 0, none⟩) [l] := fun _ =>
  ⟨_, _, rfl, fun i hi => by
    have e : i = 0 := by simpa using hi
    subst e
    subst hn
    exact ⟨A, c, ((Row.new w t _).cell 0).trans rfl, h.alloc _⟩⟩

theorem Rds.one_at {w : World} {A : Option Addr} {n c b : Nat} {l : List UInt8} (t : TypeId) (hb : w.heap.size = b) (h : Rd w A l) (hn : l.length = n) : Rds (w.alloc (.cells #[.slice A n c] t)) (some ⟨b, 0, none⟩) [l] := by
  subst hb; exact Rds.one t h hn
theorem below_step {B : Nat} {w W w1 : World} (h1 : Below B w W) (hB : B ≤ W.heap.size) (h2 : Below W.heap.size W w1) : Below B w w1 := h1.trans (h2.mono hB)
theorem below_new (w : World) (o : Obj) : Below w.heap.size w (w.alloc o) := (Below.refl _ _).alloc (Nat.le_refl _) o
theorem below_new2 (w : World) (o o2 : Obj) : Below w.heap.size w ((w.alloc o).alloc o2) := (below_new w o).alloc (by simp) o2

section
variable {P : Program}
theorem run_append_nil_src (w : World) (base : Nat) (t ty U : TypeId) (i : TypeInfo) (ht : P.underlying t = some (.slice U)) (hi : P.info? U = some i) (v : Value) (l : List UInt8) (hown : Own U w base v l) (c : Nat) :
    (Builtin.append_ #[t, t] ty #[v, .slice none 0 c]).run P w = .ok v w := by
  rcases hown.2 with ⟨rfl, hn⟩ | ⟨g, cap, cur, rfl, _, _, hnc, _⟩
  · simp [Builtin.append_, run_underlying ht, sizeOf, typeInfo, hi, Builtin.lenOf, Builtin.firstCells]
  · simp [Builtin.append_, run_underlying ht, sizeOf, typeInfo, hi, Builtin.lenOf, Builtin.firstCells, hnc, storeCells]

/- '==' of two strings, as the walk spells it -/
theorem beqL_true {q l : List UInt8} (h : q = l) : (@BEq.beq (List UInt8) (@List.instBEq UInt8 (@instBEqOfDecidableEq UInt8 instDecidableEqUInt8)) q l) = true := by subst h; exact beq_self_eq_true _
theorem beqL_false {q l : List UInt8} (h : q ≠ l) : (@BEq.beq (List UInt8) (@List.instBEq UInt8 (@instBEqOfDecidableEq UInt8 instDecidableEqUInt8)) q l) = false := beq_eq_false_iff_ne.2 h
/-- A byte's type. -/
def ByteInfo (P : Program) (U : TypeId) : Prop := (P.info? U).map (fun i => (i.zero, i.size, i.bytes)) = some (some (.int .u8 0), 1, 1)

theorem run_append_bytes (w : World) (base : Nat) (t ty U : TypeId) (ht : P.underlying t = some (.slice U)) (hi : ByteInfo P U) (v : Value) (l : List UInt8) (hown : Own U w base v l)
    (A : Option Addr) (m c : Nat) (k : List UInt8) (hm : k.length = m) (hr : Rd w A k) (hlen : l.length + m ≤ 140737488355328) (hbase : base ≤ w.heap.size) :
    ∃ v' w', (Builtin.append_ #[t, t] ty #[v, .slice A m c]).run P w = .ok v' w' ∧ Own U w' base v' (l ++ k) ∧ w.grownBy w' v.ownBlock ∧ (v'.ownBlock = v.ownBlock ∨ v'.ownBlock = some w.heap.size) := by
  obtain ⟨i, hi0, hz, hs, hb⟩ := info_parts hi
  subst hm
  rcases A with _ | ad
  · have hk : k = [] := by
      rcases k with _ | ⟨x, k⟩
      · rfl
      · obtain ⟨b, o, e, _⟩ := hr (by simp)
        cases e
    subst hk
    exact ⟨v, w, run_append_nil_src w base t ty U i ht hi0 v l hown c, by simpa using hown, ⟨rfl, rfl, rfl, Nat.le_refl _, fun _ _ _ => rfl⟩, .inl rfl⟩
  · obtain ⟨v', w', h1, h2, h3, _, h5⟩ := run_append_own_at (P := P) w base t ty U i _ 1 1 ht hi0 hz hs hb rfl (by omega) v l.length (l.map byteV) hown ad k.length c (k.map byteV) (by simp)
      (fun j u hu => by
        rw [List.getElem?_map] at hu
        have hj : j < k.length := by
          rcases Nat.lt_or_ge j k.length with h | h
          · exact h
          · rw [List.getElem?_eq_none h] at hu; cases hu
        rw [List.getElem?_eq_getElem hj] at hu
        obtain ⟨b, o, e, hc⟩ := hr (by intro e; subst e; simp at hj)
        injection e with e
        subst e
        rw [Option.map_some] at hu
        rw [← hu]
        rw [← hc j hj]
        rcases Nat.eq_zero_or_pos j with rfl | hp
        · rfl
        · simp [Addr.add, Nat.ne_of_gt hp])
      (fun u hu => by obtain ⟨x, _, rfl⟩ := List.mem_map.1 hu; rfl) (by unfold maxLen; omega) (by omega) hbase
    exact ⟨v', w', h1, by unfold Own; rw [List.length_append, List.map_append]; exact h2, h3, h5⟩

theorem wpList_append_bytes {w : World} {ops : Array Oper} {rest : List Oper} {o : Oper} {a : Act} {Q : Exit → Act → World → Prop} (hgd : o.guard = none) (s x : Operand) (t : TypeId)
    (ho : o.op = .call { callee := .builtin .append, args := #[s, x], argTypes := #[t, t] }) (base : Nat) (U : TypeId) (ht : P.underlying t = some (.slice U)) (hi : ByteInfo P U)
    (v : Value) (l : List UInt8) (hs : a.eval s = v) (hown : Own U w base v l)
    (A : Option Addr) (m c : Nat) (k : List UInt8) (hx : a.eval x = .slice A m c) (hm : k.length = m) (hr : Rd w A k) (hlen : l.length + m ≤ 140737488355328) (hbase : base ≤ w.heap.size)
    (h : ∀ v' w', Own U w' base v' (l ++ k) → w.grownBy w' v.ownBlock → (v'.ownBlock = v.ownBlock ∨ v'.ownBlock = some w.heap.size) → wpList P ops Q rest (a.put o.dst v') w') : wpList P ops Q (o :: rest) a w :=
  wpList_plain hgd fun _ hK => by
    obtain ⟨v', w', hr', h2, h3, h4⟩ := run_append_bytes (P := P) w base t o.type U ht hi v l hown A m c k hm hr hlen hbase
    unfold Oper.wp execOp
    simp only [ho, resolve, invoke, builtin, Sem.run_bind, Sem.run_pure, Result.andThen_ok, List.map_toArray, List.map_cons, List.map_nil, hs, hx, hr']
    exact hK _ _ (h v' w' h2 h3 h4)
/-- 'string(b)'. -/
theorem run_string_rd (w : World) (src dst U : TypeId) (A : Option Addr) (n c : Nat) (l : List UInt8) (hs : P.underlying src = some (.slice U)) (he : P.underlying U = some (.int .u8)) (hd : P.underlying dst = some .string) (hn : l.length = n) (hr : Rd w A l) :
    (convert src dst (.slice A n c)).run P w = .ok (.string ⟨l.toArray⟩) w := by
  subst hn
  rcases A with _ | ad
  · have hk : l = [] := by
      rcases l with _ | ⟨x, k⟩
      · rfl
      · obtain ⟨b, o, e, _⟩ := hr (by simp)
        cases e
    subst hk
    simp [convert, run_underlying hs, run_underlying he, run_underlying hd, Conv.bytesToString]
    rfl
  · refine run_convert_bytes_back w src dst U ad c l hs he hd fun j hj => ?_
    obtain ⟨b, o, e, hc⟩ := hr (by intro e; subst e; simp at hj)
    injection e with e
    subst e
    rw [show (⟨b, o, none⟩ : Addr).add j = ⟨b, o + j, none⟩ from by
      rcases Nat.eq_zero_or_pos j with rfl | hp
      · rfl
      · simp [Addr.add, Nat.ne_of_gt hp]]
    exact hc j hj
end
end Go.Proofs.Ytfconncnccgenaa
