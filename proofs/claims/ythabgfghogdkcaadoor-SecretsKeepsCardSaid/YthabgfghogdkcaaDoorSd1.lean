/- Joined: Wr12, Wr13, Wr14. -/
import Derived.Test.YthabgfghogdkcaaDoorSc16
import Derived.Test.YthabgfghogdkcaaDoorScO7
import Derived.Lib.AppendStr
set_option linter.unusedVariables false
set_option linter.unusedSimpArgs false
namespace Go.Proofs.YthabgfghogdkcaaDoor
open Go.RowKit
/-- A slice's cells read as these values. -/
def RdV (w : World) (A : Option Addr) (vs : List Value) : Prop :=
  vs ≠ [] → ∃ b o, A = some ⟨b, o, none⟩ ∧ ∀ i (h : i < vs.length), w.cell? ⟨b, o + i, none⟩ = some vs[i]
theorem RdV.nil (w : World) (A : Option Addr) : RdV w A [] := fun h => absurd rfl h
theorem RdV.keep {w w' : World} {A : Option Addr} {vs : List Value} (h : RdV w A vs) (hk : ∀ b, (∃ o, A = some ⟨b, o, none⟩) → vs ≠ [] → b < w.heap.size → w'.heap[b]? = w.heap[b]?) : RdV w' A vs := fun hl => by
  obtain ⟨b, o, e, hc⟩ := h hl
  have hb : b < w.heap.size := block_lt_of_cell (hc 0 (List.length_pos_iff.2 hl))
  exact ⟨b, o, e, fun i hi => (World.cell?_of_block (w := w) (a := ⟨b, o + i, none⟩) (hk b ⟨o, e⟩ hl hb)).trans (hc i hi)⟩
theorem RdV.below {w w' : World} {A : Option Addr} {vs : List Value} (h : RdV w A vs) (hb : Below w.heap.size w w') : RdV w' A vs := h.keep fun b _ _ hl => hb.block b hl
theorem RdV.later {w w' : World} {A : Option Addr} {vs : List Value} (h : RdV w A vs) (hb : Later w w') : RdV w' A vs := h.below hb
theorem RdV.same {p : Nat → Prop} {w w' : World} {A : Option Addr} {vs : List Value} (h : RdV w A vs) (hs : Same p w w') (hp : ∀ b o, A = some ⟨b, o, none⟩ → vs ≠ [] → b < w.heap.size → p b) : RdV w' A vs := h.keep fun b ⟨o, e⟩ hl hb => hs.block b (hp b o e hl hb)
theorem RdV.alloc {w : World} {A : Option Addr} {vs : List Value} (h : RdV w A vs) (o : Obj) : RdV (w.alloc o) A vs := h.below (below_new w o)
theorem RdV.drew {w : World} {A : Option Addr} {vs : List Value} (h : RdV w A vs) : RdV w.drew A vs := h
theorem RdV.at_ {w : World} {A : Option Addr} {vs : List Value} (h : RdV w A vs) {k : Nat} (hk : k < vs.length) : ∃ b o, A = some ⟨b, o, none⟩ ∧ w.cell? ⟨b, o + k, none⟩ = some vs[k] := by
  obtain ⟨b, o, e, hc⟩ := h (by intro e; subst e; simp at hk)
  exact ⟨b, o, e, hc k hk⟩
theorem RdV.row {w : World} {g : Nat} {t : TypeId} {vs : List Value} (h : Row w g t vs.toArray) : RdV w (some ⟨g, 0, none⟩) vs := fun _ =>
  ⟨g, 0, rfl, fun i hi => by rw [h.cell, Nat.zero_add, List.getElem?_toArray, List.getElem?_eq_getElem hi]⟩
theorem RdV.bytes {w : World} {A : Option Addr} {l : List UInt8} (h : RdV w A (l.map byteV)) : Rd w A l := fun hl => by
  obtain ⟨b, o, e, hc⟩ := h (by simpa using hl)
  exact ⟨b, o, e, fun i hi => by have := hc i (by simpa using hi); simpa using this⟩
/-- A writer that has laid l; r: its own block. -/
structure IsWr (w : World) (g : Nat) (r : Option Nat) (l : List UInt8) : Prop where
  ex : ∃ v, Row w g 113 #[v, .bool true] ∧ Own 5 w 0 v l ∧ v.ownBlock = r ∧ r ≠ some g
def Wrote (w w' : World) (g : Nat) (r r' : Option Nat) : Prop := Same (fun j => j < w.heap.size ∧ j ≠ g ∧ some j ≠ r) w w' ∧ ∀ k, r' = some k → r = some k ∨ w.heap.size ≤ k
theorem Wrote.refl (w : World) (g : Nat) (r : Option Nat) : Wrote w w g r r := ⟨Same.refl _ _, fun k h => .inl h⟩
theorem Wrote.trans {w w1 w2 : World} {g : Nat} {r r1 r2 : Option Nat} (h : Wrote w w1 g r r1) (k : Wrote w1 w2 g r1 r2) : Wrote w w2 g r r2 := by
  refine ⟨h.1.trans (k.1.mono fun j hj => ⟨Nat.lt_of_lt_of_le hj.1 h.1.size, hj.2.1, fun e => ?_⟩), fun i hi => ?_⟩
  · rcases h.2 j e.symm with e1 | e1
    · exact hj.2.2 e1.symm
    · have := hj.1
      omega
  · rcases k.2 i hi with e | e
    · exact h.2 i e
    · exact .inr (Nat.le_trans h.1.size e)
theorem IsWr.mono {w w' : World} {g : Nat} {r : Option Nat} {l : List UInt8} {p : Nat → Prop} (h : IsWr w g r l) (hs : Same p w w') (hg : p g) (hr : ∀ k, r = some k → k < w.heap.size → p k) : IsWr w' g r l := by
  obtain ⟨v, h1, h2, h3, h4⟩ := h
  exact ⟨v, h1.same hs hg, h2.keep fun b hb e => hs.block b (hr b (h3 ▸ e) hb), h3, h4⟩
theorem IsWr.later {w w' : World} {g : Nat} {r : Option Nat} {l : List UInt8} (h : IsWr w g r l) (hL : Later w w') : IsWr w' g r l := by
  obtain ⟨v, h1, h2, h3, h4⟩ := h
  exact ⟨v, h1.later hL, h2.later hL, h3, h4⟩
theorem IsWr.lt {w : World} {g : Nat} {r : Option Nat} {l : List UInt8} (h : IsWr w g r l) : g < w.heap.size ∧ ∀ k, r = some k → k < w.heap.size := by
  obtain ⟨v, h1, h2, h3, h4⟩ := h
  exact ⟨h1.lt, fun k e => (h2.at_ k (h3.trans e)).2⟩
theorem Own.to0 {w : World} {base : Nat} {v : Value} {l : List UInt8} (h : Own 5 w base v l) : Own 5 w 0 v l := Own.mono h (Nat.zero_le _)
theorem Own.shape {U : TypeId} {w : World} {base : Nat} {v : Value} {l : List UInt8} (h : Own U w base v l) : ∃ A n c, v = .slice A n c := by
  obtain ⟨A, c, e, _⟩ := h.slice
  exact ⟨A, _, c, e⟩
theorem wr_step {w w1 : World} {g : Nat} {v v' : Value} {l' : List UInt8} (hrow : Row w g 113 #[v, .bool true]) (hne : v.ownBlock ≠ some g) (hown : Own 5 w1 0 v' l') (hg : Grew w w1 v v') :
    IsWr (w1.setCell ⟨g, 0, none⟩ v') g v'.ownBlock l' ∧ Wrote w (w1.setCell ⟨g, 0, none⟩ v') g v.ownBlock v'.ownBlock := by
  have hlt := hrow.lt
  have hne' : v'.ownBlock ≠ some g := fun e => by
    rcases hg.2 g e with h | h
    · exact hne h
    · omega
  have hrow1 := hrow.grown hg.1 (fun e => hne e.symm)
  refine ⟨⟨v', hrow1.set 0 v', hown.keep fun b hb e => heap_setCell_other w1 ⟨g, 0, none⟩ b v' (fun e2 => hne' (by rw [e]; exact congrArg some e2)), rfl, hne'⟩, ?_, hg.2⟩
  exact ((Same.of_grown hg.1).mono fun j hj => ⟨hj.1, hj.2.2⟩).trans ((Same.set w1 ⟨g, 0, none⟩ v').mono fun j hj => hj.2.1)
abbrev numV (n : Int) : Value := .int .i64 n
theorem wnew_any (w : World) : Calls Tryd.prog 44 #[] w fun e w' => e = .returned (.pointer (some ⟨w.heap.size, 0, none⟩)) ∧ IsWr w' w.heap.size none [] ∧ Later w w' ∧ w.heap.size < w'.heap.size := by
  go_enter Tryd.func44, Tryd.ntmps44
  go_wp2
  go_ret
  exact ⟨rfl, ⟨_, Row.new w 113 _, Own.nil _ _ _, rfl, by simp⟩, (Later.refl w).alloc _, by simp⟩
theorem wnone_yes (g : Nat) (v : Value) (made : Bool) (w : World) (hr : Row w g 113 #[v, .bool made]) : Calls Tryd.prog 70 #[.pointer (some ⟨g, 0, none⟩)] w fun e w' => w' = w ∧ e = .returned (.bool (!made)) := by
  have hc : w.cell? ⟨g, 1, none⟩ = some (.bool made) := (hr.cell 1).trans rfl
  have hd : decide (made = false) = !made := by cases made <;> rfl
  go_enter Tryd.func70, Tryd.ntmps70
  go_wp2
  go_ret
  exact ⟨rfl, rfl⟩
theorem wnone_nil (w : World) : Calls Tryd.prog 70 #[.pointer none] w fun e w' => w' = w ∧ e = .returned (.bool true) := by
  go_enter Tryd.func70, Tryd.ntmps70
  go_wp2
  go_ret
  exact ⟨rfl, rfl⟩
/-- A number that may not be laid. -/
def Wr.wrong (n : Int) : Bool := decide (n < 0) || decide (4611686018427387904 < n)
theorem wrongFn_any (n : Int) (w : World) : Calls Tryd.prog 72 #[.int .i64 n] w fun e w' => w' = w ∧ e = .returned (.bool (Wr.wrong n)) := by
  unfold Wr.wrong
  by_cases h : n < 0
  · have hd : decide (n < 0) = true := decide_eq_true h
    rw [hd]
    go_enter Tryd.func72, Tryd.ntmps72
    go_wp2
    go_ret
    exact ⟨rfl, rfl⟩
  · have hd : decide (n < 0) = false := decide_eq_false h
    rw [hd, Bool.false_or]
    obtain ⟨b, hb⟩ : ∃ b, decide (4611686018427387904 < n) = b := ⟨_, rfl⟩
    rw [hb]
    go_enter Tryd.func72, Tryd.ntmps72
    go_wp2
    go_ret
    exact ⟨rfl, rfl⟩
theorem windexFn_any (A : Option Addr) (n c : Nat) (l : List Int) (w : World) (hn : l.length = n) (hm : n ≤ 1000000000) (hr : RdV w A (l.map numV)) :
    Calls Tryd.prog 86 #[.slice A n c, .func (.func 72) #[] #[]] w fun e w' => w' = w ∧ ∃ k : Int, e = .returned (.int .i64 k) ∧ decide (0 ≤ k) = l.any Wr.wrong := by
  have HN := Lib.hid hn
  clear hn
  go_enter Tryd.func86, Tryd.ntmps86
  go_wp2_with fail
  go_loopw [8] (fun t wr => wr = w ∧ ∃ i : Nat, i ≤ n ∧ t = .int .i64 (i : Int) ∧ (l.take i).any Wr.wrong = false) (fun t _ => n - (intOf t).toNat)
  case atStart => exact ⟨rfl, 0, by omega, rfl, rfl⟩
  case round =>
    obtain ⟨rfl, i, hi, rfl, hany⟩ := hrel
    by_cases hlt : i < n
    · have hd : decide ((i : Int) < (n : Int)) = true := decide_eq_true (by omega)
      have hd' : decide (i < n) = true := decide_eq_true hlt
      have hil : i < l.length := by rw [HN.out]; exact hlt
      obtain ⟨b, o, rfl, hc⟩ := hr.at_ (k := i) (by simpa using hil)
      rw [List.getElem_map] at hc
      have hnx : l.take (i + 1) = l.take i ++ [l[i]] := List.take_succ_eq_append_getElem hil
      have hsp : l = l.take i ++ (l[i] :: l.drop (i + 1)) := by simp
      generalize hx : l[i] = x at *
      have HNX := Lib.hid hnx
      have HSP := Lib.hid hsp
      clear hnx hsp hr
      by_cases hw : Wr.wrong x = true
      · go_wp2_with (first
          | (go_at_call 72; refine (wrongFn_any x _).mono ?_; rintro e w2 ⟨rfl, rfl⟩; rw [hw])
          | fail)
        go_ret
        refine ⟨rfl, _, rfl, ?_⟩
        rw [HSP.out]
        simp [hw]
      · have hw' : Wr.wrong x = false := by simpa using hw
        go_wp2_with (first
          | (go_at_call 72; refine (wrongFn_any x _).mono ?_; rintro e w2 ⟨rfl, rfl⟩; rw [hw'])
          | fail)
        go_roundw
        case rel => exact ⟨trivial, i + 1, by omega, by go_num, by rw [HNX.out, List.any_append, hany]; simp [hw']⟩
        case measure => simp [intOf]; omega
    · obtain rfl : i = n := by omega
      have hd : decide ((i : Int) < (i : Int)) = false := decide_eq_false (by omega)
      rw [List.take_of_length_le (by rw [HN.out]; exact Nat.le_refl _)] at hany
      go_wp2_with fail
      go_ret
      exact ⟨rfl, _, rfl, by rw [hany]; rfl⟩
theorem containsFn_any (A : Option Addr) (n c : Nat) (l : List Int) (w : World) (hn : l.length = n) (hm : n ≤ 1000000000) (hr : RdV w A (l.map numV)) :
    Calls Tryd.prog 71 #[.slice A n c, .func (.func 72) #[] #[]] w fun e w' => w' = w ∧ e = .returned (.bool (l.any Wr.wrong)) := by
  have hi := windexFn_any A n c l w hn hm hr
  go_enter Tryd.func71, Tryd.ntmps71
  go_wp2_with (first
    | (go_at_call 86; refine hi.mono ?_; clear hi; rintro e w2 ⟨rfl, k, rfl, hk⟩)
    | fail)
  go_ret
  exact ⟨rfl, by rw [← hk]; rfl⟩
def Wr.nums (l : List Int) : List UInt8 := l.flatMap Wr.nb
theorem Wr.nums_len (l : List Int) : (Wr.nums l).length ≤ 9 * l.length := by
  induction l with
  | nil => simp [Wr.nums]
  | cons x l ih =>
    have := Wr.nb_le x
    unfold Wr.nums at *
    rw [List.flatMap_cons, List.length_append, List.length_cons]
    omega
theorem Wr.wrong_lt {x : Int} (h : Wr.wrong x = false) : x < 9223372036854775808 := by
  unfold Wr.wrong at h
  simp at h
  omega
set_option maxRecDepth 100000 in
set_option maxHeartbeats 1000000 in
theorem wNumber_any (g : Nat) (r : Option Nat) (l0 : List UInt8) (A : Option Addr) (n c : Nat) (l : List Int) (w : World) (hn : l.length = n) (hm : n ≤ 1000000) (hl0 : l0.length ≤ 100000000) (hr : RdV w A (l.map numV)) (hA : ∀ b o, A = some ⟨b, o, none⟩ → l ≠ [] → b ≠ g ∧ some b ≠ r) (hw : IsWr w g r l0) :
    Calls Tryd.prog 45 #[.pointer (some ⟨g, 0, none⟩), .slice A n c] w fun e w' => (l.any Wr.wrong = true ∧ w' = w ∧ e = .returned (.int .i64 2)) ∨ (l.any Wr.wrong = false ∧ e = .returned (.int .i64 0) ∧ ∃ r', IsWr w' g r' (l0 ++ Wr.nums l) ∧ Wrote w w' g r r') := by
  have hct := containsFn_any A n c l w hn (by omega) hr
  obtain ⟨v, hrow, hown, hv, hrg⟩ := hw
  have HN := Lib.hid hn
  clear hn
  have hno := wnone_yes g v true w hrow
  cases hany : l.any Wr.wrong with
  | true =>
    rw [hany] at hct
    go_enter Tryd.func45, Tryd.ntmps45
    go_wp2_with (first
      | (go_at_call 70; refine hno.mono ?_; clear hno; rintro e w2 ⟨rfl, rfl⟩)
      | (go_at_call 71; refine hct.mono ?_; clear hct; rintro e w2 ⟨rfl, rfl⟩)
      | fail)
    go_ret
    exact .inl ⟨trivial, rfl, rfl⟩
  | false =>
    rw [hany] at hct
    have HANY := Lib.hid hany
    clear hany
    have hw : IsWr w g r l0 := ⟨v, hrow, hown, hv, hrg⟩
    clear hrow hown hv
    go_enter Tryd.func45, Tryd.ntmps45
    go_wp2_with (first
      | (go_at_call 70; refine hno.mono ?_; clear hno; rintro e w2 ⟨rfl, rfl⟩)
      | (go_at_call 71; refine hct.mono ?_; clear hct; rintro e w2 ⟨rfl, rfl⟩)
      | fail)
    have hgl := hw.lt.1
    go_loopw [15] (fun t wr => ∃ i : Nat, i ≤ n ∧ t = .int .i64 (i : Int) ∧ ∃ r1, IsWr wr g r1 (l0 ++ Wr.nums (l.take i)) ∧ Wrote w2 wr g r r1) (fun t _ => n - (intOf t).toNat)
    case atStart => exact ⟨0, by omega, rfl, r, by simpa [Wr.nums] using hw, Wrote.refl _ _ _⟩
    case round =>
      obtain ⟨i, hi, rfl, r1, ⟨v1, hrow1, hown1, hv1, hne1⟩, hwr⟩ := hrel
      by_cases hlt : i < n
      · have hd : decide ((i : Int) < (n : Int)) = true := decide_eq_true (by omega)
        have hd' : decide (i < n) = true := decide_eq_true hlt
        have hil : i < l.length := by rw [HN.out]; exact hlt
        have hr1 : RdV wr A (l.map numV) := hr.same hwr.1 (fun b o e hne hb => ⟨hb, hA b o e (by intro h; subst h; exact hne rfl)⟩)
        obtain ⟨b, o, rfl, hc⟩ := hr1.at_ (k := i) (by simpa using hil)
        rw [List.getElem_map] at hc
        have hnx : Wr.nums (l.take (i + 1)) = Wr.nums (l.take i) ++ Wr.nb l[i] := by rw [List.take_succ_eq_append_getElem hil, Wr.nums, List.flatMap_append, List.flatMap_cons, List.flatMap_nil, List.append_nil]; rfl
        have hxw : Wr.wrong l[i] = false := by
          have := HANY.out
          rw [List.any_eq_false] at this
          simpa using this _ (List.getElem_mem hil)
        have hlen := Wr.nums_len (l.take i)
        rw [List.length_take] at hlen
        have hc1 : wr.cell? ⟨g, 0, none⟩ = some v1 := (hrow1.cell 0).trans rfl
        generalize l[i] = x at *
        have HNX := Lib.hid hnx
        clear hnx hr1
        have hnum := wnumber_any v1 (l0 ++ Wr.nums (l.take i)) x 0 wr (Wr.wrong_lt hxw) (by rw [List.length_append]; omega) (Nat.zero_le _) hown1
        go_wp2_with (first
          | (go_at_call 73; refine hnum.mono ?_; clear hnum; rintro e w3 ⟨v3, rfl, hown3, hgr3⟩; obtain ⟨A3, n3, c3, rfl⟩ := hown3.shape; have hrow3 := hrow1.grown hgr3.1 (fun e => hne1 (hv1 ▸ e.symm)); have hc3 : w3.cell? ⟨g, 0, none⟩ = some v1 := (hrow3.cell 0).trans rfl; have hf3 : w3.frozen? ⟨g, 0, none⟩ = false := hrow3.frozen 0; have HO := Lib.hid hown3; clear hown3 hrow3)
          | fail)
        obtain ⟨hws, hwr2⟩ := wr_step hrow1 (hv1.symm ▸ hne1) HO.out hgr3
        rw [List.append_assoc, ← HNX.out] at hws
        go_roundw
        case rel => exact ⟨i + 1, by omega, by go_num, _, hws, hwr.trans (hv1 ▸ hwr2)⟩
        case measure => simp [intOf]; omega
      · obtain rfl : i = n := by omega
        have hd : decide ((i : Int) < (i : Int)) = false := decide_eq_false (by omega)
        have hd' : decide (i < i) = false := decide_eq_false (by omega)
        rw [List.take_of_length_le (by rw [HN.out]; exact Nat.le_refl _)] at hown1
        go_wp2_with fail
        go_ret
        exact .inr ⟨trivial, rfl, r1, ⟨v1, hrow1, hown1, hv1, hne1⟩, hwr⟩
end Go.Proofs.YthabgfghogdkcaaDoor
namespace Go.Proofs.YthabgfghogdkcaaDoor
open Go.RowKit
section
variable {P : Program}
theorem strCells_list (s : List UInt8) : Lib.strCells ⟨s.toArray⟩ = s.map byteV := by simp [Lib.strCells]
theorem run_append_str_at (w : World) (base : Nat) (t u ty U : TypeId) (ht : P.underlying t = some (.slice U)) (hu : P.underlying u = some .string) (hi : ByteInfo P U) (v : Value) (l : List UInt8) (hown : Own U w base v l) (s : List UInt8) (hlen : l.length + s.length ≤ 140737488355328) (hbase : base ≤ w.heap.size) :
    ∃ v' w', (Builtin.append_ #[t, u] ty #[v, .string ⟨s.toArray⟩]).run P w = .ok v' w' ∧ Own U w' base v' (l ++ s) ∧ w.grownBy w' v.ownBlock ∧ (v'.ownBlock = v.ownBlock ∨ v'.ownBlock = some w.heap.size) := by
  obtain ⟨i, hi0, hz, hs, hb⟩ := info_parts hi
  have hsz : (⟨s.toArray⟩ : ByteArray).size = s.length := by simp [ByteArray.size]
  obtain ⟨v', w', hr, h2, h3, h4⟩ := Lib.run_append_own_string (P := P) w base t u ty U i ht hu hi0 hz hs hb v l.length (l.map byteV) hown ⟨s.toArray⟩ (by rw [hsz]; unfold maxLen; omega) (by rw [hsz]; exact hlen) hbase
  rw [hsz, strCells_list, ← List.map_append] at h2
  refine ⟨v', w', hr, by unfold Own; rw [List.length_append]; exact h2, h3, ?_⟩
  rcases hown.2 with ⟨rfl, hl⟩ | ⟨g, cap, cur, rfl, hbg, hg, hnc, hcm, hcs, htake⟩
  · by_cases h0 : s.length = 0
    · rw [h4.2 ⟨rfl, by rw [hsz]; exact h0⟩]
      exact .inl rfl
    · have hn := run_append_nil_string (P := P) w t u ty U i (.int .u8 0) ht hu hi0 hz ⟨s.toArray⟩ (by rw [hsz]; omega) (by rw [hsz]; omega) (by rw [hsz, hb]; omega)
      have e0 := hr.symm.trans hn
      injection e0 with e _
      rw [e]
      exact .inr rfl
  · by_cases hroom : l.length + s.length ≤ cap
    · have hcs' : cur.size = cap := by simpa using hcs
      have hn := Lib.run_append_room_string (P := P) w t u ty U i ht hu hi0 hs g l.length cap cur hg ⟨s.toArray⟩ (by rw [hsz]; exact hroom) (by rw [hsz]; omega)
      have e0 := hr.symm.trans hn
      injection e0 with e _
      rw [e]
      exact .inl rfl
    · have hn := Lib.run_append_grow_string (P := P) w t u ty U i (.int .u8 0) ht hu hi0 hz ⟨g, 0, none⟩ l.length cap (l.map byteV) (by rw [hs]; simp) (World.ownsRow.cells hown (g := g) rfl) ⟨s.toArray⟩ (by rw [hsz]; omega) (by rw [hsz]; omega) (by rw [hsz, hb]; exact growslice_fits (by omega) (by omega))
      have e0 := hr.symm.trans hn
      injection e0 with e _
      rw [e]
      exact .inr rfl
theorem wpList_append_str {w : World} {ops : Array Oper} {rest : List Oper} {o : Oper} {a : Act} {Q : Exit → Act → World → Prop} (hgd : o.guard = none) (sl x : Operand) (t u : TypeId)
    (ho : o.op = .call { callee := .builtin .append, args := #[sl, x], argTypes := #[t, u] }) (base : Nat) (U : TypeId) (ht : P.underlying t = some (.slice U)) (hu : P.underlying u = some .string) (hi : ByteInfo P U)
    (v : Value) (l : List UInt8) (hs : a.eval sl = v) (hown : Own U w base v l) (s : List UInt8) (hx : a.eval x = .string ⟨s.toArray⟩) (hlen : l.length + s.length ≤ 140737488355328) (hbase : base ≤ w.heap.size)
    (h : ∀ v' w', Own U w' base v' (l ++ s) → w.grownBy w' v.ownBlock → (v'.ownBlock = v.ownBlock ∨ v'.ownBlock = some w.heap.size) → wpList P ops Q rest (a.put o.dst v') w') : wpList P ops Q (o :: rest) a w :=
  wpList_plain hgd fun _ hK => by
    obtain ⟨v', w', hr', h2, h3, h4⟩ := run_append_str_at (P := P) w base t u o.type U ht hu hi v l hown s hlen hbase
    unfold Oper.wp execOp
    simp only [ho, resolve, invoke, builtin, Sem.run_bind, Sem.run_pure, Result.andThen_ok, List.map_toArray, List.map_cons, List.map_nil, hs, hx, hr']
    exact hK _ _ (h v' w' h2 h3 h4)
end
theorem Grew.of_at {w w' : World} {v v' : Value} (hg : w.grownBy w' v.ownBlock) (hat : v'.ownBlock = v.ownBlock ∨ v'.ownBlock = some w.heap.size) : Grew w w' v v' := ⟨hg, fun k hk => by
  rcases hat with e | e
  · exact .inl (e ▸ hk)
  · rw [e] at hk
    exact .inr (Nat.le_of_eq (Option.some.inj hk))⟩
theorem wall_any (g : Nat) (r : Option Nat) (l : List UInt8) (w : World) (hm : l.length ≤ 140737488355328) (hw : IsWr w g r l) :
    Calls Tryd.prog 47 #[.pointer (some ⟨g, 0, none⟩)] w fun e w' => ∃ v, e = .returned v ∧ Own 5 w' w.heap.size v l ∧ Later w w' := by
  obtain ⟨v, hrow, hown, hv, hrg⟩ := hw
  obtain ⟨A, c, rfl, _, _, hrd⟩ := hown.slice
  have hno := wnone_yes g _ true w hrow
  have hcl := clone_any A l.length c l w rfl hm hrd
  have hc1 : w.cell? ⟨g, 0, none⟩ = some (.slice A l.length c) := (hrow.cell 0).trans rfl
  go_enter Tryd.func47, Tryd.ntmps47
  go_wp2_with (first
    | (go_at_call 70; refine hno.mono ?_; clear hno; rintro e w2 ⟨rfl, rfl⟩)
    | (go_at_call 60; refine hcl.mono ?_; clear hcl; rintro e w3 ⟨v3, rfl, hown3, hL3⟩)
    | fail)
  go_ret
  exact ⟨_, rfl, hown3, hL3⟩
def Wr.truths (l : List Bool) : List UInt8 := l.map fun b => if b then 1 else 0
end Go.Proofs.YthabgfghogdkcaaDoor
namespace Go.Proofs.YthabgfghogdkcaaDoor
open Go.RowKit
/-- A slice's cells read as these hashes. -/
def RdH (w : World) (A : Option Addr) (hs : List (List UInt8)) : Prop :=
  hs ≠ [] → ∃ b o, A = some ⟨b, o, none⟩ ∧ ∀ i (h : i < hs.length), w.rangeAt b (o + i * 32) (hC hs[i]).toList
theorem RdH.nil (w : World) (A : Option Addr) : RdH w A [] := fun h => absurd rfl h
theorem hC_first (h : List UInt8) : ∃ v, (hC h).toList[0]? = some v := by
  unfold hC Sha.zeros
  rcases h with _ | ⟨x, h⟩ <;> simp
theorem RdH.keep {w w' : World} {A : Option Addr} {hs : List (List UInt8)} (h : RdH w A hs) (hk : ∀ b, (∃ o, A = some ⟨b, o, none⟩) → hs ≠ [] → b < w.heap.size → w'.heap[b]? = w.heap[b]?) : RdH w' A hs := fun hl => by
  obtain ⟨b, o, e, hc⟩ := h hl
  have h0 : 0 < hs.length := List.length_pos_iff.2 hl
  obtain ⟨v, hv⟩ := hC_first hs[0]
  have hb : b < w.heap.size := block_lt_of_cell (hc 0 h0 0 v hv)
  exact ⟨b, o, e, fun i hi j v hv => (World.cell?_of_block (w := w) (a := ⟨b, o + i * 32 + j, none⟩) (hk b ⟨o, e⟩ hl hb)).trans (hc i hi j v hv)⟩
theorem RdH.below {w w' : World} {A : Option Addr} {hs : List (List UInt8)} (h : RdH w A hs) (hb : Below w.heap.size w w') : RdH w' A hs := h.keep fun b _ _ hl => hb.block b hl
theorem RdH.same {p : Nat → Prop} {w w' : World} {A : Option Addr} {hs : List (List UInt8)} (h : RdH w A hs) (hs' : Same p w w') (hp : ∀ b o, A = some ⟨b, o, none⟩ → hs ≠ [] → b < w.heap.size → p b) : RdH w' A hs := h.keep fun b ⟨o, e⟩ hl hb => hs'.block b (hp b o e hl hb)
theorem loadHr {w : World} {b o : Nat} {h : List UInt8} (hl : h.length = 32) (hr : w.rangeAt b o (hC h).toList) : (Instr.loadAt 23 (.pointer (some ⟨b, o, none⟩))).run Tryd.prog w = .ok (.agg (hC h)) w := by
  have := run_loadAt_mid (P := Tryd.prog) w b o 23 (hC h).toList _ hr Tryd.underlying23 rfl (by rw [Array.length_toList, hC_size h (by omega)]; exact infoH)
  rwa [Array.toArray_toList] at this
theorem Grew.later {w w1 w2 : World} {v v' : Value} (h : Grew w w1 v v') (k : Later w1 w2) : Grew w w2 v v' := ⟨⟨k.os.trans h.1.os, k.tape.trans h.1.tape, k.output.trans h.1.output, Nat.le_trans h.1.size k.size, fun i hi hn => (k.block i (Nat.lt_of_lt_of_le hi h.1.size)).trans (h.1.block i hi hn)⟩, h.2⟩
theorem Grew.later0 {w w1 w2 : World} {v v' : Value} (k : Later w w1) (h : Grew w1 w2 v v') : Grew w w2 v v' := ⟨⟨h.1.os.trans k.os, h.1.tape.trans k.tape, h.1.output.trans k.output, Nat.le_trans k.size h.1.size, fun i hi hn => (h.1.block i (Nat.lt_of_lt_of_le hi k.size) hn).trans (k.block i hi)⟩, fun i e => (h.2 i e).imp id (fun h => Nat.le_trans k.size h)⟩
theorem Wrote.later0 {w w1 w2 : World} {g : Nat} {r r' : Option Nat} (k : Later w w1) (h : Wrote w1 w2 g r r') : Wrote w w2 g r r' := ⟨((Same.of_below k).mono fun j hj => hj.1).trans (h.1.mono fun j hj => ⟨Nat.lt_of_lt_of_le hj.1 k.size, hj.2⟩), fun i e => (h.2 i e).imp id (fun h => Nat.le_trans k.size h)⟩
theorem flat_len32 : ∀ (l : List (List UInt8)), (∀ h ∈ l, h.length = 32) → l.flatten.length ≤ 32 * l.length
  | [], _ => by simp
  | x :: l, h => by
    have h1 := flat_len32 l (fun y hy => h y (List.mem_cons_of_mem _ hy))
    have h2 := h x List.mem_cons_self
    rw [List.flatten_cons, List.length_append, List.length_cons]
    omega
def Wr.hashes (l : List (List UInt8)) : List UInt8 := l.flatten
theorem fieldWr0 {g : Nat} (W : World) : (Instr.fieldAt 113 (.pointer (some ⟨g, 0, none⟩)) 0).run Tryd.prog W = .ok (.pointer (some ⟨g, 0, none⟩)) W := by
  go_simp
theorem loadSl {b o : Nat} {A : Option Addr} {n c : Nat} {W : World} (hc : W.cell? ⟨b, o, none⟩ = some (.slice A n c)) : (Instr.loadAt 40 (.pointer (some ⟨b, o, none⟩))).run Tryd.prog W = .ok (.slice A n c) W := by
  go_simp
set_option maxRecDepth 100000 in
set_option maxHeartbeats 1000000 in
theorem wHash_any (g : Nat) (r : Option Nat) (l0 : List UInt8) (A : Option Addr) (n c : Nat) (l : List (List UInt8)) (w : World) (hn : l.length = n) (hm : n ≤ 1000000) (hl32 : ∀ h ∈ l, h.length = 32) (hl0 : l0.length ≤ 100000000) (hr : RdH w A l) (hA : ∀ b o, A = some ⟨b, o, none⟩ → l ≠ [] → b ≠ g ∧ some b ≠ r) (hw : IsWr w g r l0) :
    Calls Tryd.prog 46 #[.pointer (some ⟨g, 0, none⟩), .slice A n c] w fun e w' => e = .returned (.int .i64 0) ∧ ∃ r', IsWr w' g r' (l0 ++ l.flatten) ∧ Wrote w w' g r r' := by
  have hw0 := hw
  obtain ⟨v, hrow, hown, hv, hrg⟩ := hw
  have HN := Lib.hid hn
  clear hn
  have hno := wnone_yes g v true w hrow
  clear hrow hown hv
  go_enter Tryd.func46, Tryd.ntmps46
  go_wp2_with (first
    | (go_at_call 70; refine hno.mono ?_; clear hno; rintro e w2 ⟨rfl, rfl⟩)
    | fail)
  have hgl := hw0.lt.1
  go_loopw [11] (fun t wr => ∃ i : Nat, i ≤ n ∧ t = .int .i64 (i : Int) ∧ ∃ r1, IsWr wr g r1 (l0 ++ (l.take i).flatten) ∧ Wrote w2 wr g r r1) (fun t _ => n - (intOf t).toNat)
  case atStart => exact ⟨0, by omega, rfl, r, by simpa using hw0, Wrote.refl _ _ _⟩
  case round =>
    obtain ⟨i, hi, rfl, r1, hwr1, hwr⟩ := hrel
    by_cases hlt : i < n
    · have hd : decide ((i : Int) < (n : Int)) = true := decide_eq_true (by omega)
      have hd' : decide (i < n) = true := decide_eq_true hlt
      have hil : i < l.length := by rw [HN.out]; exact hlt
      have hr1 : RdH wr A l := hr.same hwr.1 (fun b o e hne hb => ⟨hb, hA b o e (by intro h; subst h; exact hne rfl)⟩)
      obtain ⟨b, o, rfl, hcs⟩ := hr1 (by intro e; subst e; simp at hil)
      have hc := hcs i hil
      have hx32 := hl32 _ (List.getElem_mem hil)
      have hnx : (l.take (i + 1)).flatten = (l.take i).flatten ++ l[i] := by rw [List.take_succ_eq_append_getElem hil, List.flatten_append]; simp
      have hlen : (l.take i).flatten.length ≤ 32 * n := Nat.le_trans (flat_len32 _ (fun h hh => hl32 h (List.mem_of_mem_take hh))) (by rw [List.length_take]; omega)
      generalize l[i] = x at *
      have hld := loadHr hx32 hc
      obtain ⟨w3, hst, hrow3, hg3⟩ := storeH (a := []) (b := x) (by simp) (by omega) (Row.new wr 23 (hC []))
      have HNX := Lib.hid hnx
      have HX := Lib.hid hx32
      clear hnx hr1 hcs hc hx32
      go_upto_region 6 with (first
        | (refine wpList_load rfl 23 (.tmp 13) rfl (.pointer (some ⟨b, o + i * 32, none⟩)) rfl hld ?_)
        | (with_reducible refine wpList_alloc rfl 23 rfl (allocH _) ?_)
        | (refine wpList_store rfl 23 (.tmp 6) (.tmp 14) rfl (.pointer (some ⟨wr.heap.size, 0, none⟩)) (.agg (hC x)) rfl rfl hst ?_)
        | fail)
      simp only [Act.put, List.setIfInBounds_toArray, List.set_cons_succ, List.set_cons_zero]
      obtain ⟨v1, hrow1, hown1, hv1, hne1⟩ := hwr1
      obtain ⟨q, hq⟩ : ∃ q, q = wr.heap.size := ⟨_, rfl⟩
      rw [← hq] at hrow3 hg3 ⊢
      have hL3 : Later wr w3 := ((Later.refl wr).alloc (.cells (hC []) 23)).grown hg3 (by simp) (fun k e => by cases e; omega)
      obtain ⟨A1, n1, c1, rfl⟩ := hown1.shape
      have hrow13 := hrow1.later hL3
      have hown13 := hown1.later hL3
      refine (wpIn_wide (n := 0)).1 ?_
      refine wpIn_region_pivot wide_wide 6 [.pointer (some ⟨g, 0, none⟩), .pointer (some ⟨g, 0, none⟩), .pointer (some ⟨g, 0, none⟩), .pointer (some ⟨g, 0, none⟩), .slice A1 n1 c1, .slice (some ⟨q, 0, none⟩) 32 32, undef, .pointer (some ⟨g, 0, none⟩), .pointer (some ⟨g, 0, none⟩)] (fun W => Later w3 W) (fun y W => Own 5 W 0 y (l0 ++ (l.take i).flatten ++ x) ∧ Grew w3 W (.slice A1 n1 c1) y) (fun W W' h k => k.step h) (fun y W W' h k => ⟨k.1.later h, k.2.later h⟩) (Later.refl _) (by kernel_rfl) (by kernel_rfl) (by kernel_rfl) (by kernel_rfl) (by kernel_rfl) (by kernel_rfl) rfl (by kernel_rfl) (by kernel_rfl) ⟨?_, ?_, ?_, ?_, ?_, ?_, ?_, ?_, ?_, trivial⟩ ?_
      · exact fun ac W dd xx he => stepOk_want rfl (op_move rfl (he.keep (.tmp 0) (by kernel_rfl)))
      · exact fun ac W dd xx he => stepOk_want rfl (op_move rfl (he.keep (.tmp 0) (by kernel_rfl)))
      · exact fun ac W dd xx he => stepOk_want rfl (op_nil rfl (show ac.eval (.tmp 16) = .pointer (some ⟨g, 0, none⟩) from he.val 1 16 (by kernel_rfl) rfl rfl) rfl)
      · exact fun ac W dd xx he => stepOk_want rfl (op_fieldAddr rfl (show ac.eval (.tmp 17) = .pointer (some ⟨g, 0, none⟩) from he.val 2 17 (by kernel_rfl) rfl rfl) (fieldWr0 W) rfl)
      · exact fun ac W dd xx he => stepOk_want rfl (op_load rfl (show ac.eval (.tmp 18) = .pointer (some ⟨g, 0, none⟩) from he.val 3 18 (by kernel_rfl) rfl rfl) (loadSl ((he.both (C := fun W => Row W g 113 #[.slice A1 n1 c1, .bool true]) (fun W h => hrow13.later h) (fun y W h => hrow13.grown h.2.1 (fun e => hne1 (hv1 ▸ e.symm)))).cell 0 |>.trans rfl)) rfl)
      · exact fun ac W dd xx he => stepOk_want rfl (op_slice (W' := W) rfl (he.keep (.tmp 6) (by kernel_rfl)) (rfl : _ = none) (rfl : _ = none) rfl (sliceHash W) rfl)
      · intro ac W he hA; refine ⟨rfl, ?_⟩; have e19 := (show ac.eval (.tmp 19) = .slice A1 n1 c1 from he.val 4 19 (by kernel_rfl) rfl rfl); have e20 := (show ac.eval (.tmp 20) = .slice (some ⟨q, 0, none⟩) 32 32 from he.val 5 20 (by kernel_rfl) rfl rfl); exact op_append_bytes (.tmp 19) (.tmp 20) 40 rfl 0 5 Tryd.underlying40 byteInfo (.slice A1 n1 c1) _ e19 (hown13.later hA) (some ⟨q, 0, none⟩) 32 32 x e20 HX.out (rd_hash HX.out (hrow3.later hA)) (by rw [List.length_append]; omega) (Nat.zero_le _) (fun v' w' h1 h2 h3 => ⟨v', rfl, h1, Grew.later0 hA (Grew.of_at h2 h3)⟩)
      · exact fun ac W dd xx he => stepOk_want rfl (op_nil rfl (show ac.eval (.tmp 15) = .pointer (some ⟨g, 0, none⟩) from he.val 0 15 (by kernel_rfl) rfl rfl) rfl)
      · exact fun ac W dd xx he => stepOk_want rfl (op_fieldAddr rfl (show ac.eval (.tmp 22) = .pointer (some ⟨g, 0, none⟩) from he.val 7 22 (by kernel_rfl) rfl rfl) (fieldWr0 W) rfl)
      · intro xs W y hB hx hk hg
        have e8 := hg 8 23 (by decide) (by kernel_rfl)
        have e6 := hg 6 21 (by decide) (by kernel_rfl)
        rw [hx 8 (by decide)] at e8
        rw [hx 6 (by decide)] at e6
        obtain ⟨hownW, hgrW⟩ := hB
        obtain ⟨A4, n4, c4, rfl⟩ := hownW.shape
        have hrowW := hrow13.grown hgrW.1 (fun e => hne1 (hv1 ▸ e.symm))
        obtain ⟨hws, hwr2⟩ := wr_step hrow13 (hv1.symm ▸ hne1) hownW hgrW
        have hst4 : (Instr.storeAt 40 (.pointer (some ⟨g, 0, none⟩)) (.slice A4 n4 c4)).run Tryd.prog W = .ok () (W.setCell ⟨g, 0, none⟩ (.slice A4 n4 c4)) := by
          have h1 : W.cell? ⟨g, 0, none⟩ = some (.slice A1 n1 c1) := (hrowW.cell 0).trans rfl
          have h2 : W.frozen? ⟨g, 0, none⟩ = false := hrowW.frozen 0
          go_simp
        refine last_store rfl rfl e8 e6 hst4 ?_
        clear hx hk hg e8 e6
        simp only [initL, lastL, putL, Nat.reduceAdd, Act.put, List.setIfInBounds_toArray, List.set_cons_succ, List.set_cons_zero]
        go_wp2_with fail
        rw [List.append_assoc, ← HNX.out] at hws
        exact ⟨⟨i + 1, by omega, by go_num, _, hws, hwr.trans (Wrote.later0 hL3 (hv1 ▸ hwr2))⟩, by simp [intOf]; omega⟩
    · obtain rfl : i = n := by omega
      have hd : decide ((i : Int) < (i : Int)) = false := decide_eq_false (by omega)
      have hd' : decide (i < i) = false := decide_eq_false (by omega)
      rw [List.take_of_length_le (by rw [HN.out]; exact Nat.le_refl _)] at hwr1
      go_wp2_with fail
      go_ret
      exact ⟨rfl, r1, hwr1, hwr⟩
end Go.Proofs.YthabgfghogdkcaaDoor
