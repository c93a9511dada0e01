/- Rows of records: each element so many cells. -/
import Derived.Test.YtloiaaolnfimgaaGreatRc2
set_option linter.unusedVariables false
set_option linter.unusedSimpArgs false
namespace Go.Proofs.YtloiaaolnfimgaaGreat
open Go.RowKit
theorem arr_range (cs : Array Value) (n : Nat) (h : cs.size = n) : cs = ((List.range n).map fun i => cs.getD i undef).toArray := by
  apply Array.ext_getElem?
  intro i
  conv => rhs; rw [List.getElem?_toArray, List.getElem?_map]
  by_cases hi : i < n
  · rw [List.getElem?_range hi, Array.getElem?_eq_getElem (by omega)]
    simp [Array.getD, h, hi]
  · rw [Array.getElem?_eq_none (by omega), List.getElem?_eq_none (by simp; omega)]
    rfl
theorem rec_at (z : Nat) : ∀ (ls : List (List Value)), (∀ l ∈ ls, l.length = z) → ∀ (k : Nat) (h : k < ls.length) (j : Nat), j < z → ls.flatten[k * z + j]? = ls[k][j]?
  | d :: ds, hz, 0, _, j, hj => by
    rw [List.flatten_cons, Nat.zero_mul, Nat.zero_add, List.getElem?_append_left (by rw [hz d List.mem_cons_self]; exact hj)]
    rfl
  | d :: ds, hz, k + 1, h, j, hj => by
    have ih := rec_at z ds (fun x hx => hz x (List.mem_cons_of_mem _ hx)) k (by simpa using h) j hj
    have h1 := hz d List.mem_cons_self
    have e : (k + 1) * z = k * z + z := by rw [Nat.add_mul, Nat.one_mul]
    rw [List.flatten_cons, List.getElem?_append_right (by omega), show (k + 1) * z + j - d.length = k * z + j by omega]
    simpa using ih
theorem rec_len (z : Nat) : ∀ (ls : List (List Value)), (∀ l ∈ ls, l.length = z) → ls.flatten.length = ls.length * z
  | [], _ => by simp
  | d :: ds, hz => by
    rw [List.flatten_cons, List.length_append, rec_len z ds (fun x hx => hz x (List.mem_cons_of_mem _ hx)), hz d List.mem_cons_self, List.length_cons, Nat.add_mul, Nat.one_mul, Nat.add_comm]
/-- A slice's cells read as these records. -/
def Recs (z : Nat) (w : World) (A : Option Addr) (ls : List (List Value)) : Prop := ls ≠ [] → ∃ b o, A = some ⟨b, o, none⟩ ∧ ∀ i (h : i < ls.length), w.rangeAt b (o + i * z) ls[i]
theorem Recs.nil (z : Nat) (w : World) (A : Option Addr) : Recs z w A [] := fun h => absurd rfl h
theorem Recs.later {z : Nat} {w w' : World} {A : Option Addr} {ls : List (List Value)} (h : Recs z w A ls) (hL : Later w w') : Recs z w' A ls := fun hne => by
  obtain ⟨b, o, e, hc⟩ := h hne
  exact ⟨b, o, e, fun i hi j v hj => hL.cell (hc i hi j v hj)⟩
theorem Recs.at_ {z : Nat} {w : World} {A : Option Addr} {ls : List (List Value)} (h : Recs z w A ls) {k : Nat} (hk : k < ls.length) : ∃ b o, A = some ⟨b, o, none⟩ ∧ w.rangeAt b (o + k * z) ls[k] := by
  obtain ⟨b, o, e, hc⟩ := h (fun e => by rw [e] at hk; simp at hk)
  exact ⟨b, o, e, hc k hk⟩
theorem Recs.row {z : Nat} {w : World} {g : Nat} {T : TypeId} {ls : List (List Value)} {cs : Array Value} (hr : Row w g T cs) (hz : ∀ l ∈ ls, l.length = z) (hp : ∀ (j : Nat) (v : Value), ls.flatten[j]? = some v → cs[j]? = some v) : Recs z w (some ⟨g, 0, none⟩) ls := fun _ => by
  refine ⟨g, 0, rfl, fun i hi j v hj => ?_⟩
  have hl := hz _ (List.getElem_mem hi)
  have hjz : j < z := by rw [← hl]; exact (List.getElem?_eq_some_iff.1 hj).1
  rw [Nat.zero_add]
  exact (hr.cell _).trans (hp _ _ ((rec_at z ls hz i hi j hjz).trans hj))
theorem Recs.drop1 {z : Nat} {w : World} {A : Option Addr} {l : List Value} {ls : List (List Value)} (h : Recs z w A (l :: ls)) : Recs z w (A.map (·.add z)) ls := fun _ => by
  obtain ⟨b, o, rfl, hc⟩ := h (by simp)
  refine ⟨b, o + z, by simp [addr_add], fun i hi => ?_⟩
  have := hc (i + 1) (by simpa using hi)
  rw [show o + z + i * z = o + (i + 1) * z by rw [Nat.add_mul, Nat.one_mul]; omega]
  simpa using this
/-- A growing row of records of the call's own. -/
def OwnG (T : TypeId) (z : Nat) (w : World) (base : Nat) (v : Value) (ls : List (List Value)) : Prop := (∀ l ∈ ls, l.length = z ∧ ∀ u ∈ l, u.oneCell' = true) ∧ w.ownsRow base T z v ls.length ls.flatten
theorem OwnG.nil (T : TypeId) (z : Nat) (w : World) (base : Nat) : OwnG T z w base (.slice none 0 0) [] := ⟨by simp, by simp, .inl ⟨rfl, rfl⟩⟩
theorem OwnG.at_ {T : TypeId} {z : Nat} {w : World} {base : Nat} {v : Value} {ls : List (List Value)} (h : OwnG T z w base v ls) : ∀ k, v.ownBlock = some k → base ≤ k ∧ k < w.heap.size := World.ownsRow.lt h.2
theorem OwnG.keep {T : TypeId} {z : Nat} {w w' : World} {base : Nat} {v : Value} {ls : List (List Value)} (h : OwnG T z w base v ls) (hk : ∀ b, b < w.heap.size → v.ownBlock = some b → w'.heap[b]? = w.heap[b]?) : OwnG T z w' base v ls := by
  obtain ⟨h0, h1, h2⟩ := h
  refine ⟨h0, h1, ?_⟩
  rcases h2 with h2 | ⟨g, cap, cur, e, hb, hh, hr⟩
  · exact .inl h2
  · exact .inr ⟨g, cap, cur, e, hb, (hk g (Array.getElem?_eq_some_iff.1 hh).1 (by rw [e]; rfl)).trans hh, hr⟩
theorem OwnG.later {T : TypeId} {z : Nat} {w w' : World} {base : Nat} {v : Value} {ls : List (List Value)} (h : OwnG T z w base v ls) (hL : Later w w') : OwnG T z w' base v ls := h.keep fun b hb _ => Below.block hL b hb
theorem OwnG.type {T : TypeId} {z : Nat} {w : World} {base : Nat} {v : Value} {ls : List (List Value)} (h : OwnG T z w base v ls) {k : Nat} (hk : v.ownBlock = some k) : ∃ cs, Row w k T cs := by
  rcases h.2.2 with ⟨rfl, hn⟩ | ⟨g, cap, cur, rfl, hb, hh, hr⟩
  · cases hk
  · injection hk with hk
    subst hk
    exact ⟨cur, hh⟩
theorem OwnG.slice {T : TypeId} {z : Nat} {w : World} {base : Nat} {v : Value} {ls : List (List Value)} (h : OwnG T z w base v ls) : ∃ A c, v = .slice A ls.length c ∧ ls.length ≤ c ∧ c ≤ maxLen ∧ Recs z w A ls := by
  rcases h.2.2 with ⟨rfl, hn⟩ | ⟨g, cap, cur, rfl, hb, hh, hn, hc, hs, ht⟩
  · have : ls = [] := List.eq_nil_of_length_eq_zero hn
    subst this
    exact ⟨none, 0, rfl, Nat.le_refl _, Nat.zero_le _, Recs.nil _ _ _⟩
  · refine ⟨_, cap, rfl, hn, hc, Recs.row (cs := cur) hh (fun l hl => (h.1 l hl).1) fun j v hv => ?_⟩
    rw [← ht] at hv
    have hj : j < ls.length * z := by
      have := (List.getElem?_eq_some_iff.1 hv).1
      rw [List.length_take] at this
      omega
    rw [List.getElem?_take_of_lt hj, Array.getElem?_toList] at hv
    exact hv
theorem OwnG.row {T : TypeId} {z : Nat} {w : World} {g base : Nat} {ls : List (List Value)} {n : Nat} (h : Row w g T ls.flatten.toArray) (hz : ∀ l ∈ ls, l.length = z ∧ ∀ u ∈ l, u.oneCell' = true) (hn : ls.length = n) (hb : base ≤ g) (hm : n ≤ maxLen) : OwnG T z w base (.slice (some ⟨g, 0, none⟩) n n) ls := by
  have hl := rec_len z ls fun l hl => (hz l hl).1
  refine ⟨hz, hl, .inr ⟨g, n, _, by rw [hn], hb, h, by omega, hm, by rw [List.size_toArray, hl, hn], ?_⟩⟩
  rw [← hl, List.take_length]
theorem wpList_append_g {T U : TypeId} {z bytes : Nat} {zv : Value} (hU : Tryz.prog.underlying T = some (.slice U)) (hI : (Tryz.prog.info? U).map (fun i => (i.zero, i.size, i.bytes)) = some (some zv, z, bytes)) (hzv : zv.cells.size = z) (hz0 : 0 < z) (hby : bytes ≤ 100000)
    {w : World} {ops : Array Oper} {rest : List Oper} {o : Oper} {a : Act} {Q : Exit → Act → World → Prop} (hgd : o.guard = none) (s x : Operand)
    (ho : o.op = .call { callee := .builtin .append, args := #[s, x], argTypes := #[T, T] })
    (base : Nat) (v : Value) (ls : List (List Value)) (hs : a.eval s = v) (hown : OwnG U z w base v ls) (A : Option Addr) (m c : Nat) (ks : List (List Value)) (hk : ∀ l ∈ ks, l.length = z ∧ ∀ u ∈ l, u.oneCell' = true) (hx : a.eval x = .slice A m c) (hm : ks.length = m) (hr : Recs z w A ks)
    (hne : ks ≠ []) (hl : ls.length + m ≤ 1000000000) (hbase : base ≤ w.heap.size)
    (h : ∀ v' w', OwnG U z w' base v' (ls ++ ks) → w.grownBy w' v.ownBlock → (v'.ownBlock = v.ownBlock ∨ v'.ownBlock = some w.heap.size) → wpList Tryz.prog ops Q rest (a.put o.dst v') w') : wpList Tryz.prog ops Q (o :: rest) a w := by
  obtain ⟨i, hi, he⟩ := Option.map_eq_some_iff.1 hI
  injection he with hz he
  injection he with hsz hby'
  obtain ⟨b, o0, rfl, hc⟩ := hr hne
  have hkl := rec_len z ks fun l hl => (hk l hl).1
  refine wpList_append_own_at w hgd s x T ho base U i _ z bytes hU hi hz hsz hby' hzv hz0 v ls.length ls.flatten hs hown.2 ⟨b, o0, none⟩ m c ks.flatten hx (by rw [hkl, hm]) (fun j u hj => ?_) (fun u hu => ?_) (by unfold maxLen; omega) ?_ hbase
    fun v' w' h1 h2 _ h4 => h v' w' ⟨fun l hl => by rcases List.mem_append.1 hl with h | h; exact hown.1 l h; exact hk l h, by rw [List.length_append, List.flatten_append, hm]; exact h1⟩ h2 h4
  · have hjl : j < ks.length * z := by rw [← hkl]; exact (List.getElem?_eq_some_iff.1 hj).1
    have hq : j / z < ks.length := Nat.div_lt_of_lt_mul (by rw [Nat.mul_comm]; exact hjl)
    have hr : j % z < z := Nat.mod_lt _ hz0
    have e : j / z * z + j % z = j := Nat.div_add_mod' j z
    have h1 := rec_at z ks (fun l hl => (hk l hl).1) (j / z) hq (j % z) hr
    rw [e, hj] at h1
    have h2 := hc (j / z) hq (j % z) u h1.symm
    rw [addr_add]
    rwa [Nat.add_assoc, e] at h2
  · obtain ⟨l, hl, hu⟩ := List.mem_flatten.1 hu
    exact (hk l hl).2 u hu
  · exact Nat.le_trans (Nat.mul_le_mul hl hby) (by decide)
/-- A part of a row is stored. -/
theorem store_part {w : World} {g o : Nat} {t T : TypeId} {cs vs : Array Value} (hr : Row w g t cs) (hi : (Tryz.prog.info? T).map (·.size) = some vs.size) (hle : o + vs.size ≤ cs.size) (h1 : vs.all (·.oneCell') = true) :
    ∃ w', (Instr.storeAt T (.pointer (some ⟨g, o, none⟩)) (.agg vs)).run Tryz.prog w = .ok () w' ∧ Row w' g t (setFrom cs o vs.toList) ∧ w.grownBy w' (some g) :=
  ⟨_, run_store_row hr vs hi hle h1, row_setCells vs.toList o w _ hr, grown_setCells _ _ _⟩
end Go.Proofs.YtloiaaolnfimgaaGreat
