/- Walks: the writer's All, Truth, Text; append of a string's bytes. -/
import Derived.Test.YtmipaacobioakaaWr12
import Derived.Lib.AppendStr
set_option linter.unusedVariables false
set_option linter.unusedSimpArgs false
namespace Go.Proofs.Ytmipaacobioakaa
open Go.RowKit
section
variable {P : Program}
theorem strCells_list (s : List UInt8) : Lib.strCells ⟨s.toArray⟩ = s.map byteV := by simp [Lib.strCells]
theorem run_append_str_at (w : World) (base : Nat) (t u ty U : TypeId) (ht : P.underlying t = some (.slice U)) (hu : P.underlying u = some .string) (hi : ByteInfo P U) (v : Value) (l : List UInt8) (hown : Own U w base v l) (s : List UInt8) (hlen : l.length + s.length ≤ 140737488355328) (hbase : base ≤ w.heap.size) :
    ∃ v' w', (Builtin.append_ #[t, u] ty #[v, .string ⟨s.toArray⟩]).run P w = .ok v' w' ∧ Own U w' base v' (l ++ s) ∧ w.grownBy w' v.ownBlock ∧ (v'.ownBlock = v.ownBlock ∨ v'.ownBlock = some w.heap.size) := by
  obtain ⟨i, hi0, hz, hs, hb⟩ := info_parts hi
  have hsz : (⟨s.toArray⟩ : ByteArray).size = s.length := by simp [ByteArray.size]
  obtain ⟨v', w', hr, h2, h3, h4⟩ := Lib.run_append_own_string (P := P) w base t u ty U i ht hu hi0 hz hs hb v l.length (l.map byteV) hown ⟨s.toArray⟩ (by rw [hsz]; unfold maxLen; omega) (by rw [hsz]; exact hlen) hbase
  rw [hsz, strCells_list, ← List.map_append] at h2
  refine ⟨v', w', hr, by unfold Own; rw [List.length_append]; exact h2, h3, ?_⟩
  rcases hown.2 with ⟨rfl, hl⟩ | ⟨g, cap, cur, rfl, hbg, hg, hnc, hcm, hcs, htake⟩
  · by_cases h0 : s.length = 0
    · rw [h4.2 ⟨rfl, by rw [hsz]; exact h0⟩]
      exact .inl rfl
    · have hn := run_append_nil_string (P := P) w t u ty U i (.int .u8 0) ht hu hi0 hz ⟨s.toArray⟩ (by rw [hsz]; omega) (by rw [hsz]; omega) (by rw [hsz, hb]; omega)
      have e0 := hr.symm.trans hn
      injection e0 with e _
      rw [e]
      exact .inr rfl
  · by_cases hroom : l.length + s.length ≤ cap
    · have hcs' : cur.size = cap := by simpa using hcs
      have hn := Lib.run_append_room_string (P := P) w t u ty U i ht hu hi0 hs g l.length cap cur hg ⟨s.toArray⟩ (by rw [hsz]; exact hroom) (by rw [hsz]; omega)
      have e0 := hr.symm.trans hn
      injection e0 with e _
      rw [e]
      exact .inl rfl
    · have hn := Lib.run_append_grow_string (P := P) w t u ty U i (.int .u8 0) ht hu hi0 hz ⟨g, 0, none⟩ l.length cap (l.map byteV) (by rw [hs]; simp) (World.ownsRow.cells hown (g := g) rfl) ⟨s.toArray⟩ (by rw [hsz]; omega) (by rw [hsz]; omega) (by rw [hsz, hb]; exact growslice_fits (by omega) (by omega))
      have e0 := hr.symm.trans hn
      injection e0 with e _
      rw [e]
      exact .inr rfl
theorem wpList_append_str {w : World} {ops : Array Oper} {rest : List Oper} {o : Oper} {a : Act} {Q : Exit → Act → World → Prop} (hgd : o.guard = none) (sl x : Operand) (t u : TypeId)
    (ho : o.op = .call { callee := .builtin .append, args := #[sl, x], argTypes := #[t, u] }) (base : Nat) (U : TypeId) (ht : P.underlying t = some (.slice U)) (hu : P.underlying u = some .string) (hi : ByteInfo P U)
    (v : Value) (l : List UInt8) (hs : a.eval sl = v) (hown : Own U w base v l) (s : List UInt8) (hx : a.eval x = .string ⟨s.toArray⟩) (hlen : l.length + s.length ≤ 140737488355328) (hbase : base ≤ w.heap.size)
    (h : ∀ v' w', Own U w' base v' (l ++ s) → w.grownBy w' v.ownBlock → (v'.ownBlock = v.ownBlock ∨ v'.ownBlock = some w.heap.size) → wpList P ops Q rest (a.put o.dst v') w') : wpList P ops Q (o :: rest) a w :=
  wpList_plain hgd fun _ hK => by
    obtain ⟨v', w', hr', h2, h3, h4⟩ := run_append_str_at (P := P) w base t u o.type U ht hu hi v l hown s hlen hbase
    unfold Oper.wp execOp
    simp only [ho, resolve, invoke, builtin, Sem.run_bind, Sem.run_pure, Result.andThen_ok, List.map_toArray, List.map_cons, List.map_nil, hs, hx, hr']
    exact hK _ _ (h v' w' h2 h3 h4)
end
theorem Grew.of_at {w w' : World} {v v' : Value} (hg : w.grownBy w' v.ownBlock) (hat : v'.ownBlock = v.ownBlock ∨ v'.ownBlock = some w.heap.size) : Grew w w' v v' := ⟨hg, fun k hk => by
  rcases hat with e | e
  · exact .inl (e ▸ hk)
  · rw [e] at hk
    exact .inr (Nat.le_of_eq (Option.some.inj hk))⟩
theorem all_any (g : Nat) (r : Option Nat) (l : List UInt8) (w : World) (hm : l.length ≤ 140737488355328) (hw : IsWr w g r l) :
    Calls Try.prog 14 #[.pointer (some ⟨g, 0, none⟩)] w fun e w' => ∃ v, e = .returned v ∧ Own 5 w' w.heap.size v l ∧ Later w w' := by
  obtain ⟨v, hrow, hown, hv, hrg⟩ := hw
  obtain ⟨A, c, rfl, _, _, hrd⟩ := hown.slice
  have hno := wnone_yes g _ true w hrow
  have hcl := clone_any A l.length c l w rfl hm hrd
  have hc1 : w.cell? ⟨g, 0, none⟩ = some (.slice A l.length c) := (hrow.cell 0).trans rfl
  go_enter Try.func14, Try.ntmps14
  go_wp2_with (first
    | (go_at_call 36; refine hno.mono ?_; clear hno; rintro e w2 ⟨rfl, rfl⟩)
    | (go_at_call 40; refine hcl.mono ?_; clear hcl; rintro e w3 ⟨v3, rfl, hown3, hL3⟩)
    | fail)
  go_ret
  exact ⟨_, rfl, hown3, hL3⟩
set_option maxRecDepth 100000 in
set_option maxHeartbeats 1000000 in
theorem wText_any (g : Nat) (r : Option Nat) (l0 s : List UInt8) (w : World) (hm : s.length < 9223372036854775808) (hl0 : l0.length ≤ 100000000) (hw : IsWr w g r l0) :
    Calls Try.prog 28 #[.pointer (some ⟨g, 0, none⟩), .string ⟨s.toArray⟩] w fun e w' => (1048576 < s.length ∧ w' = w ∧ e = .returned (.int .i64 3)) ∨ (s.length ≤ 1048576 ∧ e = .returned (.int .i64 0) ∧ ∃ r', IsWr w' g r' (l0 ++ (Wr.bytes s.length ++ s)) ∧ Wrote w w' g r r') := by
  obtain ⟨v, hrow, hown, hv, hrg⟩ := hw
  have hno := wnone_yes g v true w hrow
  have hsz : (⟨s.toArray⟩ : ByteArray).size = s.length := by simp [ByteArray.size]
  by_cases hbig : 1048576 < s.length
  · have hd : decide ((1048576 : Int) < (s.length : Int)) = true := decide_eq_true (by omega)
    have hd' : decide (1048576 < s.length) = true := decide_eq_true (by omega)
    go_enter Try.func28, Try.ntmps28
    go_wp2_with (first
      | (go_at_call 36; refine hno.mono ?_; clear hno; rintro e w2 ⟨rfl, rfl⟩)
      | fail)
    go_ret
    exact .inl ⟨hbig, rfl, rfl⟩
  · have hd : decide ((1048576 : Int) < (s.length : Int)) = false := decide_eq_false (by omega)
    have hd' : decide (1048576 < s.length) = false := decide_eq_false (by omega)
    have hnum := number_any v l0 (s.length : Int) 0 w (by omega) (by omega) (Nat.zero_le _) hown
    rw [Wr.nb_nat] at hnum
    have hbl := Wr.bytes_le s.length
    have hc1 : w.cell? ⟨g, 0, none⟩ = some v := (hrow.cell 0).trans rfl
    generalize hlen : s.length = n at *
    go_enter Try.func28, Try.ntmps28
    go_wp2_with (first
      | (go_at_call 36; refine hno.mono ?_; clear hno; rintro e w2 ⟨rfl, rfl⟩)
      | (go_at_call 39; refine hnum.mono ?_; clear hnum; rintro e w3 ⟨v3, rfl, hown3, hgr3⟩)
      | (at_builtin; refine wpList_append_str rfl (.tmp 19) (.tmp 20) 22 9 rfl 0 5 Try.underlying22 Try.underlying9 byteInfo v3 (l0 ++ Wr.bytes n) rfl hown3 s rfl (by rw [List.length_append]; omega) (Nat.zero_le _) ?_; intro v4 w4 hown4 hg4 hat4; have hgr4 := hgr3.trans (Grew.of_at hg4 hat4); obtain ⟨A4, n4, c4, rfl⟩ := hown4.shape; have hrow4 := hrow.grown hgr4.1 (fun e => hrg (hv ▸ e.symm)); have hc4 : w4.cell? ⟨g, 0, none⟩ = some v := (hrow4.cell 0).trans rfl; have hf4 : w4.frozen? ⟨g, 0, none⟩ = false := hrow4.frozen 0; have HO := Lib.hid hown4; have HG := Lib.hid hgr4; clear hown4 hrow4 hgr4 hg4 hat4)
      | fail)
    go_ret
    obtain ⟨hws, hwr⟩ := wr_step hrow (hv.symm ▸ hrg) HO.out HG.out
    rw [List.append_assoc] at hws
    exact .inr ⟨by omega, rfl, _, hws, hv ▸ hwr⟩
def Wr.truths (l : List Bool) : List UInt8 := l.map fun b => if b then 1 else 0
set_option maxRecDepth 100000 in
set_option maxHeartbeats 1000000 in
theorem wTruth_any (g : Nat) (r : Option Nat) (l0 : List UInt8) (A : Option Addr) (n c : Nat) (l : List Bool) (w : World) (hn : l.length = n) (hm : n ≤ 1000000) (hl0 : l0.length ≤ 100000000) (hr : RdV w A (l.map Value.bool)) (hA : ∀ b o, A = some ⟨b, o, none⟩ → l ≠ [] → b ≠ g ∧ some b ≠ r) (hw : IsWr w g r l0) :
    Calls Try.prog 26 #[.pointer (some ⟨g, 0, none⟩), .slice A n c] w fun e w' => e = .returned (.int .i64 0) ∧ ∃ r', IsWr w' g r' (l0 ++ Wr.truths l) ∧ Wrote w w' g r r' := by
  have hw0 := hw
  obtain ⟨v, hrow, hown, hv, hrg⟩ := hw
  have HN := Lib.hid hn
  clear hn
  have hno := wnone_yes g v true w hrow
  clear hrow hown hv
  go_enter Try.func26, Try.ntmps26
  go_wp2_with (first
    | (go_at_call 36; refine hno.mono ?_; clear hno; rintro e w2 ⟨rfl, rfl⟩)
    | fail)
  have hgl := hw0.lt.1
  go_loopw [12] (fun t wr => ∃ i : Nat, i ≤ n ∧ t = .int .i64 (i : Int) ∧ ∃ r1, IsWr wr g r1 (l0 ++ Wr.truths (l.take i)) ∧ Wrote w2 wr g r r1) (fun t _ => n - (intOf t).toNat)
  case atStart => exact ⟨0, by omega, rfl, r, by simpa [Wr.truths] using hw0, Wrote.refl _ _ _⟩
  case round =>
    obtain ⟨i, hi, rfl, r1, ⟨v1, hrow1, hown1, hv1, hne1⟩, hwr⟩ := hrel
    by_cases hlt : i < n
    · have hd : decide ((i : Int) < (n : Int)) = true := decide_eq_true (by omega)
      have hd' : decide (i < n) = true := decide_eq_true hlt
      have hil : i < l.length := by rw [HN.out]; exact hlt
      have hr1 : RdV wr A (l.map Value.bool) := hr.same hwr.1 (fun b o e hne hb => ⟨hb, hA b o e (by intro h; subst h; exact hne rfl)⟩)
      obtain ⟨b, o, rfl, hc⟩ := hr1.at_ (k := i) (by simpa using hil)
      rw [List.getElem_map] at hc
      have hnx : Wr.truths (l.take (i + 1)) = Wr.truths (l.take i) ++ [if l[i] then 1 else 0] := by rw [List.take_succ_eq_append_getElem hil, Wr.truths, List.map_append, List.map_cons, List.map_nil]; rfl
      have hlen : (Wr.truths (l.take i)).length ≤ n := by simp [Wr.truths]; omega
      have hc1 : wr.cell? ⟨g, 0, none⟩ = some v1 := (hrow1.cell 0).trans rfl
      generalize l[i] = x at *
      have HNX := Lib.hid hnx
      clear hnx hr1
      have HT : ∀ x : Bool, True := fun _ => trivial
      cases x with
      | true =>
        go_wp2_with (first
          | (at_builtin; refine wpList_append_bytes rfl (.tmp 21) (.tmp 23) 22 rfl 0 5 Try.underlying22 byteInfo v1 (l0 ++ Wr.truths (l.take i)) rfl (hown1.alloc _) (some ⟨wr.heap.size, 0, none⟩) 1 1 [1] rfl rfl (Rd.byte1 rfl) (by rw [List.length_append]; omega) (Nat.zero_le _) ?_; intro v3 w3 hown3 hg3 hat3; have hgr3 := Grew.alloc hg3 hat3; obtain ⟨A3, n3, c3, rfl⟩ := hown3.shape; have hrow3 := hrow1.grown hgr3.1 (fun e => hne1 (hv1 ▸ e.symm)); have hc3 : w3.cell? ⟨g, 0, none⟩ = some v1 := (hrow3.cell 0).trans rfl; have hf3 : w3.frozen? ⟨g, 0, none⟩ = false := hrow3.frozen 0; have HO := Lib.hid hown3; have HG := Lib.hid hgr3; clear hown3 hrow3 hgr3 hg3 hat3)
          | fail)
        obtain ⟨hws, hwr2⟩ := wr_step hrow1 (hv1.symm ▸ hne1) HO.out HG.out
        rw [List.append_assoc] at hws
        have hnx := HNX.out
        rw [if_pos rfl] at hnx
        rw [← hnx] at hws
        go_roundw
        case rel => exact ⟨i + 1, by omega, by go_num, _, hws, hwr.trans (hv1 ▸ hwr2)⟩
        case measure => simp [intOf]; omega
      | false =>
        go_wp2_with (first
          | (at_builtin; refine wpList_append_bytes rfl (.tmp 21) (.tmp 23) 22 rfl 0 5 Try.underlying22 byteInfo v1 (l0 ++ Wr.truths (l.take i)) rfl (hown1.alloc _) (some ⟨wr.heap.size, 0, none⟩) 1 1 [0] rfl rfl (Rd.byte1 rfl) (by rw [List.length_append]; omega) (Nat.zero_le _) ?_; intro v3 w3 hown3 hg3 hat3; have hgr3 := Grew.alloc hg3 hat3; obtain ⟨A3, n3, c3, rfl⟩ := hown3.shape; have hrow3 := hrow1.grown hgr3.1 (fun e => hne1 (hv1 ▸ e.symm)); have hc3 : w3.cell? ⟨g, 0, none⟩ = some v1 := (hrow3.cell 0).trans rfl; have hf3 : w3.frozen? ⟨g, 0, none⟩ = false := hrow3.frozen 0; have HO := Lib.hid hown3; have HG := Lib.hid hgr3; clear hown3 hrow3 hgr3 hg3 hat3)
          | fail)
        obtain ⟨hws, hwr2⟩ := wr_step hrow1 (hv1.symm ▸ hne1) HO.out HG.out
        rw [List.append_assoc] at hws
        have hnx := HNX.out
        rw [if_neg (by decide)] at hnx
        rw [← hnx] at hws
        go_roundw
        case rel => exact ⟨i + 1, by omega, by go_num, _, hws, hwr.trans (hv1 ▸ hwr2)⟩
        case measure => simp [intOf]; omega
    · obtain rfl : i = n := by omega
      have hd : decide ((i : Int) < (i : Int)) = false := decide_eq_false (by omega)
      have hd' : decide (i < i) = false := decide_eq_false (by omega)
      rw [List.take_of_length_le (by rw [HN.out]; exact Nat.le_refl _)] at hown1
      go_wp2_with fail
      go_ret
      exact ⟨rfl, r1, ⟨v1, hrow1, hown1, hv1, hne1⟩, hwr⟩
end Go.Proofs.Ytmipaacobioakaa
