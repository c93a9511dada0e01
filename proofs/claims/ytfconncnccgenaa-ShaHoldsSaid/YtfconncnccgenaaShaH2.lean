/- A sum's copy; a row of slices of bytes that grows. -/
import Derived.Test.YtfconncnccgenaaShaR5
import Derived.Test.YtfconncnccgenaaRows2
import Derived.Test.YtfconncnccgenaaShaH1
import Derived.Test.YtfconncnccgenaaShaP5
set_option linter.unusedVariables false
set_option linter.unusedSimpArgs false
namespace Go.Proofs.Ytfconncnccgenaa
open Go.RowKit
set_option maxRecDepth 100000 in
set_option maxHeartbeats 4000000 in
theorem copy_any (g : Nat) (l : List UInt8) (w : World) (hrun : IsRun w g l) :
    Calls Try.prog 25 #[.pointer (some ⟨g, 0, none⟩)] w fun e w' => ∃ k, e = .returned (.pointer (some ⟨k, 0, none⟩)) ∧ IsRun w' k l ∧ w.heap.size ≤ k ∧ Later w w' := by
  obtain ⟨p, hp, hpl, hrow⟩ := id hrun
  have hgl := hrow.lt
  have HR := Lib.hid hrun
  have HPL := Lib.hid hpl
  clear hrun hpl
  go_enter Try.func25, Try.ntmps25
  go_wp2_with (first
    | (go_at_call 44; refine (none_no g l _ HR.out).mono ?_; rintro e w' ⟨rfl, rfl⟩)
    | (refine wpList_load rfl 77 (.tmp 7) rfl (.pointer (some ⟨g, 0, none⟩)) rfl (loadR hp hrow) ?_)
    | (with_reducible refine wpList_alloc rfl 77 rfl (allocR _) ?_)
    | (refine wpList_store rfl 77 (.tmp 3) (.tmp 8) rfl (.pointer (some ⟨w.heap.size, 0, none⟩)) (.agg (runC (Sha.state l) p l.length)) rfl rfl (storeR hp _) ?_))
  go_ret
  exact ⟨w.heap.size, rfl, ⟨p, hp, HPL.out, Row.new w _ _⟩, Nat.le_refl _, (Later.refl w).alloc _⟩

/-- A row of slices of bytes of the call's own; the bytes lay in an elder world. -/
def OwnS (U : TypeId) (w0 w : World) (base : Nat) (v : Value) (ls : List (List UInt8)) : Prop :=
  ∃ cs : List Value, w.ownsRow base U 1 v ls.length cs ∧ ∀ i (h : i < ls.length), ∃ A c, cs[i]? = some (.slice A ls[i].length c) ∧ ls[i].length ≤ c ∧ c ≤ 9223372036854775807 ∧ Rd w0 A ls[i]
section
variable {P : Program} {U : TypeId} {w0 w w' : World} {base : Nat} {v : Value} {ls : List (List UInt8)}
theorem OwnS.nil (U : TypeId) (w0 w : World) (base : Nat) : OwnS U w0 w base (.slice none 0 0) [] := ⟨[], ⟨rfl, .inl ⟨rfl, rfl⟩⟩, fun i h => absurd h (Nat.not_lt_zero i)⟩
theorem OwnS.keep (h : OwnS U w0 w base v ls) (hk : ∀ b, b < w.heap.size → v.ownBlock = some b → w'.heap[b]? = w.heap[b]?) : OwnS U w0 w' base v ls := by
  obtain ⟨cs, ⟨h1, h2⟩, h3⟩ := h
  refine ⟨cs, ⟨h1, ?_⟩, h3⟩
  rcases h2 with ⟨rfl, hn⟩ | ⟨g, cap, cur, rfl, hb, hh, hr⟩
  · exact .inl ⟨rfl, hn⟩
  · exact .inr ⟨g, cap, cur, rfl, hb, by rw [hk g (Array.getElem?_eq_some_iff.1 hh).1 rfl]; exact hh, hr⟩
theorem OwnS.below (h : OwnS U w0 w base v ls) (hb : Below w.heap.size w w') : OwnS U w0 w' base v ls := h.keep fun b hb' _ => hb.block b hb'
theorem OwnS.at_ (h : OwnS U w0 w base v ls) : ∀ k, v.ownBlock = some k → base ≤ k ∧ k < w.heap.size := by
  obtain ⟨cs, h1, _⟩ := h
  exact World.ownsRow.lt h1
theorem OwnS.slice (h : OwnS U w0 w base v ls) : ∃ A c, v = .slice A ls.length c ∧ ls.length ≤ c ∧ c ≤ 9223372036854775807 ∧ RdsW w0 w A ls := by
  obtain ⟨cs, ⟨h1, h2⟩, h3⟩ := h
  rcases h2 with ⟨rfl, hn⟩ | ⟨g, cap, cur, rfl, hb, hh, hn, hc, hs, ht⟩
  · have : ls = [] := List.eq_nil_of_length_eq_zero hn
    subst this
    exact ⟨none, 0, rfl, Nat.le_refl _, Nat.zero_le _, fun h => absurd rfl h⟩
  · refine ⟨_, cap, rfl, hn, by simpa [maxLen] using hc, fun _ => ⟨g, 0, rfl, fun i hi => ?_⟩⟩
    obtain ⟨A, c, e1, e2, e3, e4⟩ := h3 i hi
    refine ⟨A, c, ?_, e2, e3, e4⟩
    rw [cell_of_row w g (0 + i) cur U (0, 0) hh, Nat.zero_add, ← e1, ← ht, List.getElem?_take_of_lt (by omega), Array.getElem?_toList]
theorem run_append_slice (t ty : TypeId) (ht : P.underlying t = some (.slice U)) (hi : (P.info? U).map (fun i => (i.zero, i.size, i.bytes)) = some (some (.slice none 0 0), 1, 24)) (hown : OwnS U w0 w base v ls)
    (g : Nat) (A : Option Addr) (n c : Nat) (p : List UInt8) (hx : w.cell? ⟨g, 0, none⟩ = some (.slice A n c)) (hn : p.length = n) (hc : n ≤ c) (hm : c ≤ 9223372036854775807) (hr : Rd w0 A p) (hlen : ls.length ≤ 1000000) (hbase : base ≤ w.heap.size) :
    ∃ v' w', (Builtin.append_ #[t, t] ty #[v, .slice (some ⟨g, 0, none⟩) 1 1]).run P w = .ok v' w' ∧ OwnS U w0 w' base v' (ls ++ [p]) ∧ w.grownBy w' v.ownBlock ∧ (v'.ownBlock = v.ownBlock ∨ v'.ownBlock = some w.heap.size) := by
  obtain ⟨i, hi0, hz, hs, hb⟩ := info_parts hi
  subst hn
  obtain ⟨cs, hcs, hel⟩ := hown
  obtain ⟨v', w', h1, h2, h3, _, h5⟩ := run_append_own_at (P := P) w base t ty U i _ 1 24 ht hi0 hz hs hb rfl (by omega) v ls.length cs hcs ⟨g, 0, none⟩ 1 1 [.slice A p.length c] rfl
    (fun j u hu => by
      rcases j with _ | j
      · injection hu with hu
        subst hu
        exact hx
      · simp at hu)
    (fun u hu => by obtain rfl := List.mem_singleton.1 hu; rfl) (by unfold maxLen; omega) (by omega) hbase
  refine ⟨v', w', h1, ⟨cs ++ [.slice A p.length c], by rw [List.length_append]; exact h2, fun k hk => ?_⟩, h3, h5⟩
  have hcl : cs.length = ls.length := by rw [hcs.1, Nat.mul_one]
  by_cases hk1 : k < ls.length
  · obtain ⟨A', c', e1, e2, e3, e4⟩ := hel k hk1
    refine ⟨A', c', ?_, ?_, e3, ?_⟩
    · rw [List.getElem?_append_left (by omega), e1, List.getElem_append_left hk1]
    · rw [List.getElem_append_left hk1]; exact e2
    · rw [List.getElem_append_left hk1]; exact e4
  · have hk2 : k = ls.length := by simp at hk; omega
    subst hk2
    refine ⟨A, c, ?_, ?_, hm, ?_⟩
    · rw [List.getElem?_append_right (by omega), hcl, Nat.sub_self]
      simp
    · simpa using hc
    · simpa using hr
theorem wpList_append_slice {ops : Array Oper} {rest : List Oper} {o : Oper} {a : Act} {Q : Exit → Act → World → Prop} (hgd : o.guard = none) (s x : Operand) (t : TypeId)
    (ho : o.op = .call { callee := .builtin .append, args := #[s, x], argTypes := #[t, t] }) (ht : P.underlying t = some (.slice U)) (hi : (P.info? U).map (fun i => (i.zero, i.size, i.bytes)) = some (some (.slice none 0 0), 1, 24))
    (hs : a.eval s = v) (hown : OwnS U w0 w base v ls)
    (g : Nat) (A : Option Addr) (n c : Nat) (p : List UInt8) (hxe : a.eval x = .slice (some ⟨g, 0, none⟩) 1 1) (hx : w.cell? ⟨g, 0, none⟩ = some (.slice A n c)) (hn : p.length = n) (hc : n ≤ c) (hm : c ≤ 9223372036854775807) (hr : Rd w0 A p) (hlen : ls.length ≤ 1000000) (hbase : base ≤ w.heap.size)
    (h : ∀ v' w', OwnS U w0 w' base v' (ls ++ [p]) → w.grownBy w' v.ownBlock → (v'.ownBlock = v.ownBlock ∨ v'.ownBlock = some w.heap.size) → wpList P ops Q rest (a.put o.dst v') w') : wpList P ops Q (o :: rest) a w :=
  wpList_plain hgd fun _ hK => by
    obtain ⟨v', w', hr', h2, h3, h4⟩ := run_append_slice (P := P) t o.type ht hi hown g A n c p hx hn hc hm hr hlen hbase
    unfold Oper.wp execOp
    simp only [ho, resolve, invoke, builtin, Sem.run_bind, Sem.run_pure, Result.andThen_ok, List.map_toArray, List.map_cons, List.map_nil, hs, hxe, hr']
    exact hK _ _ (h v' w' h2 h3 h4)
end
theorem run_slice_piece {P : Program} {t U : TypeId} {A : Option Addr} {n ca k m : Nat} (ht : P.underlying t = some (.slice U)) (hi : ByteInfo P U) (h1 : k ≤ m) (h2 : m ≤ ca) :
    ∃ D, (∀ w : World, (Instr.slice t (.slice A n ca) (some (.int .i64 (k : Int))) (some (.int .i64 (m : Int))) none).run P w = .ok (.slice D (m - k) (ca - k)) w) ∧ (∀ (W : World) (l : List UInt8), m ≤ l.length → Rd W A l → Rd W D ((l.drop k).take (m - k))) ∧ ∀ ad, D = some ad → ∃ ad', A = some ad' ∧ ad'.block = ad.block := by
  obtain ⟨i, hi0, hz, hs, hb⟩ := info_parts hi
  have he : P.elem t = U := by simp [Program.elem, ht]
  have ht' : P.underlying t = some (.slice (P.elem t)) := by rw [he]; exact ht
  refine ⟨if ca = k then A else A.map (·.add (k * 1)), fun w => ?_, fun W l hl hr => ?_, fun ad e => ?_⟩
  · rw [run_slice_lh w t A n ca ht' .i64 .i64 (k : Int) (m : Int) (by omega) (by omega) (by omega), he]
    simp [sizeOf, typeInfo, hi0, hs, sliced]
  · by_cases h : ca = k
    · rw [show m - k = 0 from by omega, List.take_zero]
      exact Rd.nil _ _
    · refine Rd.take ?_ _
      rw [if_neg h, Nat.mul_one]
      intro hne
      obtain ⟨b, o, e, hc⟩ := hr (by intro e; subst e; simp at hne)
      subst e
      refine ⟨b, o + k, by unfold Addr.add; simp, fun i hi' => ?_⟩
      rw [List.getElem_drop, Nat.add_assoc]
      exact hc (k + i) (by rw [List.length_drop] at hi'; omega)
  · split at e
    · exact ⟨ad, e, rfl⟩
    · rcases A with _ | x
      · cases e
      · refine ⟨x, rfl, ?_⟩
        have e2 : x.add (k * 1) = ad := Option.some.inj e
        rw [← e2]
        unfold Addr.add
        split <;> rfl
theorem rd_piece {W : World} {A : Option Addr} {l : List UInt8} (hr : Rd W A l) (k j : Nat) : Rd W (A.map (fun x => x.add k)) ((l.drop k).take j) := by
  refine Rd.take ?_ _
  intro hne
  obtain ⟨b, o, e, hc⟩ := hr (by intro e; subst e; simp at hne)
  subst e
  refine ⟨b, o + k, by unfold Addr.add; simp, fun i hi' => ?_⟩
  rw [List.getElem_drop, Nat.add_assoc]
  exact hc (k + i) (by rw [List.length_drop] at hi'; omega)
theorem piece_block {A : Option Addr} {k : Nat} {ad : Addr} (e : A.map (fun x => x.add k) = some ad) : ∃ ad', A = some ad' ∧ ad'.block = ad.block := by
  rcases A with _ | x
  · cases e
  · refine ⟨x, rfl, ?_⟩
    have e2 : x.add k = ad := Option.some.inj e
    rw [← e2]
    unfold Addr.add
    split <;> rfl
end Go.Proofs.Ytfconncnccgenaa
