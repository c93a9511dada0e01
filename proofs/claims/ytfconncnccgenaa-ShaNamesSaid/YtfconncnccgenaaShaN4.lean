/- append onto an empty row; what may be said of values while a byte is set behind. -/
import Derived.Test.YtfconncnccgenaaShaN3
import Derived.Test.YtfconncnccgenaaOrder5
import Derived.Test.YtfconncnccgenaaShaE
import Derived.Test.YtfconncnccgenaaRun
set_option linter.unusedVariables false
set_option linter.unusedSimpArgs false
namespace Go.Proofs.Ytfconncnccgenaa
open Go.RowKit
theorem run_append_void {P : Program} (w : World) (base g : Nat) (t ty U : TypeId) (ht : P.underlying t = some (.slice U)) (hi : ByteInfo P U) (hown : Own U w base (.slice (some ⟨g, 0, none⟩) 0 0) []) (hb : base ≤ w.heap.size)
    (A : Option Addr) (n c : Nat) (l : List UInt8) (hn : l.length = n) (hr : Rd w A l) (hm : n ≤ 1000000000) :
    ∃ g2 cap w', (Builtin.append_ #[t, t] ty #[.slice (some ⟨g, 0, none⟩) 0 0, .slice A n c]).run P w = .ok (.slice (some ⟨g2, 0, none⟩) n cap) w' ∧ Later w w' ∧ Own U w' base (.slice (some ⟨g2, 0, none⟩) n cap) l ∧ (n = 0 → cap = 0) := by
  obtain ⟨i, hi0, hz, hs, hby⟩ := info_parts hi
  subst hn
  rcases Nat.eq_zero_or_pos l.length with h0 | h0
  · have hl : l = [] := List.eq_nil_of_length_eq_zero h0
    subst hl
    refine ⟨g, 0, w, ?_, Later.refl w, hown, fun _ => rfl⟩
    rcases A with _ | ad
    · simp [Builtin.append_, run_underlying ht, sizeOf, typeInfo, hi0, hs, Builtin.lenOf, Builtin.firstCells, storeCells]
    · simp [Builtin.append_, run_underlying ht, sizeOf, typeInfo, hi0, hs, Builtin.lenOf, Builtin.firstCells, loadCells, loadCellsFrom, storeCells]
  · obtain ⟨b, o, rfl, hc⟩ := hr (by intro e; subst e; simp at h0)
    have hnews : ∀ j u, (l.map byteV)[j]? = some u → w.cell? ((⟨b, o, none⟩ : Addr).add j) = some u := fun j u hu => by
      have hj : j < l.length := by
        rcases Nat.lt_or_ge j l.length with h | h
        · exact h
        · rw [List.getElem?_eq_none (by simpa using h)] at hu; cases hu
      rw [List.getElem?_map, List.getElem?_eq_getElem hj, Option.map_some] at hu
      rw [show (⟨b, o, none⟩ : Addr).add j = ⟨b, o + j, none⟩ from by
        rcases Nat.eq_zero_or_pos j with rfl | hp
        · rfl
        · simp [Addr.add, Nat.ne_of_gt hp], hc j hj, hu]
    have h := run_append_grow (P := P) w t ty U i _ ht hi0 hz ⟨g, 0, none⟩ 0 0 [] (by simp) (fun j u hu => by simp at hu) ⟨b, o, none⟩ l.length c (l.map byteV) (by rw [hs]; simp) hnews (by omega) (by omega) (by
      rw [hby]
      have := nextslicecap_le (need := 0 + l.length) (old := 0) (by omega)
      omega)
    rw [Nat.zero_add] at h
    refine ⟨_, _, _, h, ((Later.refl w).drew).alloc _, ⟨by simp, .inr ⟨w.heap.size, _, _, by simp; rfl, hb, heap_alloc_new w.drew _, by simpa using grownCap_ge w l.length 0 U, grownCap_le_maxLen w _ _ _ (by unfold maxLen; omega), ?_, ?_⟩⟩, fun e => by omega⟩
    · have hge := grownCap_ge w l.length 0 U
      rw [show (Value.int IntKind.u8 0).cells = #[.int .u8 0] from rfl, zeroCells_list]
      simp
      omega
    · rw [show (Value.int IntKind.u8 0).cells = #[.int .u8 0] from rfl, zeroCells_list, Nat.mul_one]
      simp
theorem own_push {U : TypeId} {W : World} {base g n cap : Nat} {l : List UInt8} (c : UInt8) (hn : l.length = n) (h : Own U W base (.slice (some ⟨g, 0, none⟩) n cap) l) (hlt : n < cap) : Own U (W.setCell ⟨g, n, none⟩ (byteV c)) base (.slice (some ⟨g, 0, none⟩) (n + 1) cap) (l ++ [c]) ∧ ∃ cur, base ≤ g ∧ W.heap[g]? = some (.cells cur U (0, 0)) ∧ n < cur.size := by
  subst hn
  obtain ⟨h1, h2⟩ := h
  rcases h2 with ⟨e, _⟩ | ⟨g', cap', cur, e, hb, hh, hn, hc, hs, ht⟩
  · cases e
  · injection e with e1 e2 e3
    injection e1 with e1
    injection e1 with e1
    subst e1 e3
    rw [Nat.mul_one] at hs ht
    refine ⟨⟨by simp, .inr ⟨g, cap, cur.setIfInBounds l.length (byteV c), by simp, hb, heap_setCell_same W g _ cur U _ hh, by simp; omega, hc, by simpa using hs, ?_⟩⟩, cur, hb, hh, by omega⟩
    have e : cur.toList.set l.length (byteV c) = (cur.toList.take l.length ++ [byteV c]) ++ cur.toList.drop (l.length + 1) := by
      have hlt' : l.length < cur.toList.length := by
        have h3 : cur.toList.length = cur.size := Array.length_toList
        rw [h3, hs]; exact hlt
      rw [List.set_eq_take_append_cons_drop, if_pos hlt']
      simp
    rw [Nat.mul_one, Array.toList_setIfInBounds, e, ht, List.map_append]
    exact List.take_left' (by simp)
theorem row_turn1 {B n : Nat} {U T : TypeId} {c : UInt8} {W W' : World} {g : Nat} {x : Value} (h : Row W g T #[x]) (ht : Turn B n U c W W') : Row W' g T #[x] := by
  rcases ht with hL | ⟨r, cur, h1, h2, h3, h4, e⟩
  · exact h.later hL
  · exact row_turn (B := B) (n := n) (U := U) (c := c) h (.inr h4) (.inr ⟨r, cur, h1, h2, h3, h4, e⟩)
/-- A variable of type T beyond B is stored anew. -/
def Put (B : Nat) (T : TypeId) (k : Nat) (W W' : World) : Prop := ∃ g cs cs', B ≤ g ∧ Row W g T cs ∧ Row W' g T cs' ∧ cs'.size = k ∧ W.grownBy W' (some g)
theorem row_ne {W : World} {g g' : Nat} {T U : TypeId} {cs cs' : Array Value} (h : Row W g T cs) (h' : Row W g' U cs') (hT : T ≠ U) : g ≠ g' := fun e => by
  subst e
  have h1 : W.heap[g]? = some (.cells cs T (0, 0)) := h
  have h2 : W.heap[g]? = some (.cells cs' U (0, 0)) := h'
  rw [h1] at h2
  injection h2 with h2
  injection h2 with _ h2 _
  exact hT h2
theorem own_put {B k : Nat} {T U : TypeId} {W W' : World} {base : Nat} {v : Value} {l : List UInt8} (h : Own U W base v l) (hT : T ≠ U) (hp : Put B T k W W') : Own U W' base v l := by
  obtain ⟨g, cs, cs', _, hr, _, _, hg⟩ := hp
  refine ⟨h.1, ?_⟩
  rcases h.2 with ⟨rfl, hn⟩ | ⟨g2, cap, cur, rfl, hb, hh, hrest⟩
  · exact .inl ⟨rfl, hn⟩
  · have hne : g2 ≠ g := row_ne (cs := cur) hh hr (fun e => hT e.symm)
    exact .inr ⟨g2, cap, cur, rfl, hb, (hg.block g2 (Array.getElem?_eq_some_iff.1 hh).1 (fun e => hne (by injection e))).trans hh, hrest⟩
theorem row_put {B k : Nat} {T U : TypeId} {W W' : World} {g : Nat} {cs : Array Value} (h : Row W g U cs) (hT : T ≠ U) (hp : Put B T k W W') : Row W' g U cs := by
  obtain ⟨g2, cs2, cs', _, hr, _, _, hg⟩ := hp
  exact h.grown hg (fun e => row_ne h hr (fun e => hT e.symm) (by injection e))
/-- What may be said of values, and bears both. -/
structure PrX (T : World → World → Prop) where
  dep : List Nat
  R : (Nat → Value) → World → Prop
  cong : ∀ xs ys W, (∀ k ∈ dep, xs k = ys k) → R xs W → R ys W
  st : ∀ xs W W', R xs W → T W W' → R xs W'
def TP (B n : Nat) (U : TypeId) (c : UInt8) (T : TypeId) (k : Nat) (W W' : World) : Prop := Turn B n U c W W' ∨ Put B T k W W'
def PrX.eq {T : World → World → Prop} (j : Nat) (c : Value) : PrX T := ⟨[j], fun xs _ => xs j = c, fun xs ys _ h e => (h j (by simp)).symm.trans e, fun _ _ _ h _ => h⟩
def VofX {T : World → World → Prop} (Vs : List (PrX T)) (j : Nat) (xs : Nat → Value) (W : World) : Prop := match Vs[j]? with
  | some p => p.R xs W
  | none => True
def depsB {T : World → World → Prop} (ops : Array Oper) (Vs : List (PrX T)) : Bool := (List.range Vs.length).all fun j => match Vs[j]? with
  | some p => p.dep.all fun k => k == j || waits ops j k
  | none => true
theorem VofX.st {T : World → World → Prop} {ops : Array Oper} {Vs : List (PrX T)} (hd : depsB ops Vs = true) : ∀ (i j : Nat) xs v W W', j ≠ i → waits ops j i = false → VofX Vs j xs W → T W W' → VofX Vs j (upd xs i v) W' := fun i j xs v W W' hne hw h hL => by
  unfold VofX at *
  cases hj : Vs[j]? with
  | none => trivial
  | some p =>
    rw [hj] at h
    refine p.cong xs _ W' (fun k hk => ?_) (p.st xs W W' h hL)
    have hjl : j < Vs.length := (List.getElem?_eq_some_iff.1 hj).1
    unfold depsB at hd
    rw [List.all_eq_true] at hd
    have h1 := hd j (List.mem_range.2 hjl)
    rw [hj] at h1
    simp only [List.all_eq_true] at h1
    have h2 := h1 k hk
    have hki : k ≠ i := fun e => by
      subst e
      rw [hw] at h2
      simp at h2
      exact hne h2.symm
    rw [upd_ne xs v hki]
section
variable (B n : Nat) (U : TypeId) (c : UInt8) (T : TypeId) (hTU : T ≠ U) (k j : Nat)
def PrX.own (m : Nat) (l : List UInt8) (hl : l.length ≤ n ∨ ∃ hi : n < l.length, l[n] = c) : PrX (TP B n U c T k) := ⟨[j], fun xs W => ∃ g cap, xs j = .slice (some ⟨g, 0, none⟩) m cap ∧ (m = 0 → cap = 0) ∧ Own U W B (.slice (some ⟨g, 0, none⟩) m cap) l,
  fun xs ys _ h ⟨g, cap, e, h2⟩ => ⟨g, cap, (h j (by simp)).symm.trans e, h2⟩, fun _ _ _ ⟨g, cap, e, h0, h⟩ ht => ⟨g, cap, e, h0, by rcases ht with ht | ht; exact own_turn h hl ht; exact own_put h hTU ht⟩⟩
def PrX.pre (l : List UInt8) (hl : l.length ≤ n ∨ ∃ hi : n < l.length, l[n] = c) : PrX (TP B n U c T k) := ⟨[j], fun xs W => ∃ g cap, xs j = .slice (some ⟨g, 0, none⟩) n cap ∧ Own U W B (.slice (some ⟨g, 0, none⟩) (n + 1) cap) l,
  fun xs ys _ h ⟨g, cap, e, h2⟩ => ⟨g, cap, (h j (by simp)).symm.trans e, h2⟩, fun _ _ _ ⟨g, cap, e, h⟩ ht => ⟨g, cap, e, by rcases ht with ht | ht; exact own_turn h hl ht; exact own_put h hTU ht⟩⟩
def PrX.one : PrX (TP B n U c T k) := ⟨[j], fun xs W => ∃ g, xs j = .slice (some ⟨g, 0, none⟩) 1 1 ∧ Row W g U #[byteV c],
  fun xs ys _ h ⟨g, e, h2⟩ => ⟨g, (h j (by simp)).symm.trans e, h2⟩, fun _ _ _ ⟨g, e, h⟩ ht => ⟨g, e, by rcases ht with ht | ht; exact row_turn1 h ht; exact row_put h hTU ht⟩⟩
def PrX.var : PrX (TP B n U c T k) := ⟨[j], fun xs W => ∃ g cs, xs j = .pointer (some ⟨g, 0, none⟩) ∧ B ≤ g ∧ cs.size = k ∧ Row W g T cs,
  fun xs ys _ h h3 => by obtain ⟨g, cs, e, h2⟩ := h3; exact ⟨g, cs, (h j (by simp)).symm.trans e, h2⟩, fun _ _ _ h3 ht => by
    obtain ⟨g, cs, e, hB, hs, h⟩ := h3
    rcases ht with ht | ⟨g2, cs2, cs', hB2, hr, hr', hs', hg⟩
    · exact ⟨g, cs, e, hB, hs, row_turn h (.inl hTU) ht⟩
    · by_cases eg : g = g2
      · subst eg; exact ⟨g, cs', e, hB, hs', hr'⟩
      · exact ⟨g, cs, e, hB, hs, h.grown hg (fun e => eg (by injection e))⟩⟩
end
theorem run_void (W : World) : (Instr.buildSlice 23 0 #[]).run Try.prog W = .ok (.slice (some ⟨W.heap.size, 0, none⟩) 0 0) (W.alloc (.cells #[] 5)) := by kernel_rfl
theorem run_one (x : Int) (W : World) : (Instr.buildSlice 23 1 #[(0, .int .u8 x)]).run Try.prog W = .ok (.slice (some ⟨W.heap.size, 0, none⟩) 1 1) (W.alloc (.cells #[.int .u8 x] 5)) := by kernel_rfl
theorem op_append_run {P : Program} {Q : Exit → Act → World → Prop} {o : Oper} {a : Act} {w : World} {K : Act → World → Prop} {s x : Operand} {t : TypeId} {vs vx v' : Value} {w' : World}
    (ho : o.op = .call { callee := .builtin .append, args := #[s, x], argTypes := #[t, t] }) (hs : a.eval s = vs) (hx : a.eval x = vx) (hr : (Builtin.append_ #[t, t] o.type #[vs, vx]).run P w = .ok v' w') (h : K (a.put o.dst v') w') : o.wp P a w K Q := by
  unfold Oper.wp execOp
  simp only [ho, resolve, invoke, builtin, Sem.run_bind, Sem.run_pure, Result.andThen_ok, List.map_toArray, List.map_cons, List.map_nil, hs, hx, hr]
  exact h
end Go.Proofs.Ytfconncnccgenaa
