/- Walks: a writer is made; numbers are laid. -/
import Derived.Test.YtmipaacobioakaaOrder7
set_option linter.unusedVariables false
set_option linter.unusedSimpArgs false
namespace Go.Proofs.Ytmipaacobioakaa
open Go.RowKit
/-- A slice's cells read as these values. -/
def RdV (w : World) (A : Option Addr) (vs : List Value) : Prop :=
  vs ≠ [] → ∃ b o, A = some ⟨b, o, none⟩ ∧ ∀ i (h : i < vs.length), w.cell? ⟨b, o + i, none⟩ = some vs[i]
theorem RdV.nil (w : World) (A : Option Addr) : RdV w A [] := fun h => absurd rfl h
theorem RdV.keep {w w' : World} {A : Option Addr} {vs : List Value} (h : RdV w A vs) (hk : ∀ b, (∃ o, A = some ⟨b, o, none⟩) → vs ≠ [] → b < w.heap.size → w'.heap[b]? = w.heap[b]?) : RdV w' A vs := fun hl => by
  obtain ⟨b, o, e, hc⟩ := h hl
  have hb : b < w.heap.size := block_lt_of_cell (hc 0 (List.length_pos_iff.2 hl))
  exact ⟨b, o, e, fun i hi => (World.cell?_of_block (w := w) (a := ⟨b, o + i, none⟩) (hk b ⟨o, e⟩ hl hb)).trans (hc i hi)⟩
theorem RdV.below {w w' : World} {A : Option Addr} {vs : List Value} (h : RdV w A vs) (hb : Below w.heap.size w w') : RdV w' A vs := h.keep fun b _ _ hl => hb.block b hl
theorem RdV.later {w w' : World} {A : Option Addr} {vs : List Value} (h : RdV w A vs) (hb : Later w w') : RdV w' A vs := h.below hb
theorem RdV.same {p : Nat → Prop} {w w' : World} {A : Option Addr} {vs : List Value} (h : RdV w A vs) (hs : Same p w w') (hp : ∀ b o, A = some ⟨b, o, none⟩ → vs ≠ [] → b < w.heap.size → p b) : RdV w' A vs := h.keep fun b ⟨o, e⟩ hl hb => hs.block b (hp b o e hl hb)
theorem RdV.alloc {w : World} {A : Option Addr} {vs : List Value} (h : RdV w A vs) (o : Obj) : RdV (w.alloc o) A vs := h.below (below_new w o)
theorem RdV.drew {w : World} {A : Option Addr} {vs : List Value} (h : RdV w A vs) : RdV w.drew A vs := h
theorem RdV.at_ {w : World} {A : Option Addr} {vs : List Value} (h : RdV w A vs) {k : Nat} (hk : k < vs.length) : ∃ b o, A = some ⟨b, o, none⟩ ∧ w.cell? ⟨b, o + k, none⟩ = some vs[k] := by
  obtain ⟨b, o, e, hc⟩ := h (by intro e; subst e; simp at hk)
  exact ⟨b, o, e, hc k hk⟩
theorem RdV.row {w : World} {g : Nat} {t : TypeId} {vs : List Value} (h : Row w g t vs.toArray) : RdV w (some ⟨g, 0, none⟩) vs := fun _ =>
  ⟨g, 0, rfl, fun i hi => by rw [h.cell, Nat.zero_add, List.getElem?_toArray, List.getElem?_eq_getElem hi]⟩
theorem RdV.bytes {w : World} {A : Option Addr} {l : List UInt8} (h : RdV w A (l.map byteV)) : Rd w A l := fun hl => by
  obtain ⟨b, o, e, hc⟩ := h (by simpa using hl)
  exact ⟨b, o, e, fun i hi => by have := hc i (by simpa using hi); simpa using this⟩
/-- A writer that has laid l; r: its own block. -/
structure IsWr (w : World) (g : Nat) (r : Option Nat) (l : List UInt8) : Prop where
  ex : ∃ v, Row w g 69 #[v, .bool true] ∧ Own 5 w 0 v l ∧ v.ownBlock = r ∧ r ≠ some g
def Wrote (w w' : World) (g : Nat) (r r' : Option Nat) : Prop := Same (fun j => j < w.heap.size ∧ j ≠ g ∧ some j ≠ r) w w' ∧ ∀ k, r' = some k → r = some k ∨ w.heap.size ≤ k
theorem Wrote.refl (w : World) (g : Nat) (r : Option Nat) : Wrote w w g r r := ⟨Same.refl _ _, fun k h => .inl h⟩
theorem Wrote.trans {w w1 w2 : World} {g : Nat} {r r1 r2 : Option Nat} (h : Wrote w w1 g r r1) (k : Wrote w1 w2 g r1 r2) : Wrote w w2 g r r2 := by
  refine ⟨h.1.trans (k.1.mono fun j hj => ⟨Nat.lt_of_lt_of_le hj.1 h.1.size, hj.2.1, fun e => ?_⟩), fun i hi => ?_⟩
  · rcases h.2 j e.symm with e1 | e1
    · exact hj.2.2 e1.symm
    · have := hj.1
      omega
  · rcases k.2 i hi with e | e
    · exact h.2 i e
    · exact .inr (Nat.le_trans h.1.size e)
theorem IsWr.mono {w w' : World} {g : Nat} {r : Option Nat} {l : List UInt8} {p : Nat → Prop} (h : IsWr w g r l) (hs : Same p w w') (hg : p g) (hr : ∀ k, r = some k → k < w.heap.size → p k) : IsWr w' g r l := by
  obtain ⟨v, h1, h2, h3, h4⟩ := h
  exact ⟨v, h1.same hs hg, h2.keep fun b hb e => hs.block b (hr b (h3 ▸ e) hb), h3, h4⟩
theorem IsWr.later {w w' : World} {g : Nat} {r : Option Nat} {l : List UInt8} (h : IsWr w g r l) (hL : Later w w') : IsWr w' g r l := by
  obtain ⟨v, h1, h2, h3, h4⟩ := h
  exact ⟨v, h1.later hL, h2.later hL, h3, h4⟩
theorem IsWr.lt {w : World} {g : Nat} {r : Option Nat} {l : List UInt8} (h : IsWr w g r l) : g < w.heap.size ∧ ∀ k, r = some k → k < w.heap.size := by
  obtain ⟨v, h1, h2, h3, h4⟩ := h
  exact ⟨h1.lt, fun k e => (h2.at_ k (h3.trans e)).2⟩
theorem Own.to0 {w : World} {base : Nat} {v : Value} {l : List UInt8} (h : Own 5 w base v l) : Own 5 w 0 v l := Own.mono h (Nat.zero_le _)
theorem Own.shape {U : TypeId} {w : World} {base : Nat} {v : Value} {l : List UInt8} (h : Own U w base v l) : ∃ A n c, v = .slice A n c := by
  obtain ⟨A, c, e, _⟩ := h.slice
  exact ⟨A, _, c, e⟩
theorem wr_step {w w1 : World} {g : Nat} {v v' : Value} {l' : List UInt8} (hrow : Row w g 69 #[v, .bool true]) (hne : v.ownBlock ≠ some g) (hown : Own 5 w1 0 v' l') (hg : Grew w w1 v v') :
    IsWr (w1.setCell ⟨g, 0, none⟩ v') g v'.ownBlock l' ∧ Wrote w (w1.setCell ⟨g, 0, none⟩ v') g v.ownBlock v'.ownBlock := by
  have hlt := hrow.lt
  have hne' : v'.ownBlock ≠ some g := fun e => by
    rcases hg.2 g e with h | h
    · exact hne h
    · omega
  have hrow1 := hrow.grown hg.1 (fun e => hne e.symm)
  refine ⟨⟨v', hrow1.set 0 v', hown.keep fun b hb e => heap_setCell_other w1 ⟨g, 0, none⟩ b v' (fun e2 => hne' (by rw [e]; exact congrArg some e2)), rfl, hne'⟩, ?_, hg.2⟩
  exact ((Same.of_grown hg.1).mono fun j hj => ⟨hj.1, hj.2.2⟩).trans ((Same.set w1 ⟨g, 0, none⟩ v').mono fun j hj => hj.2.1)
abbrev numV (n : Int) : Value := .int .i64 n
theorem new_any (w : World) : Calls Try.prog 10 #[] w fun e w' => e = .returned (.pointer (some ⟨w.heap.size, 0, none⟩)) ∧ IsWr w' w.heap.size none [] ∧ Later w w' ∧ w.heap.size < w'.heap.size := by
  go_enter Try.func10, Try.ntmps10
  go_wp2
  go_ret
  exact ⟨rfl, ⟨_, Row.new w 69 _, Own.nil _ _ _, rfl, by simp⟩, (Later.refl w).alloc _, by simp⟩
theorem wnone_yes (g : Nat) (v : Value) (made : Bool) (w : World) (hr : Row w g 69 #[v, .bool made]) : Calls Try.prog 36 #[.pointer (some ⟨g, 0, none⟩)] w fun e w' => w' = w ∧ e = .returned (.bool (!made)) := by
  have hc : w.cell? ⟨g, 1, none⟩ = some (.bool made) := (hr.cell 1).trans rfl
  have hd : decide (made = false) = !made := by cases made <;> rfl
  go_enter Try.func36, Try.ntmps36
  go_wp2
  go_ret
  exact ⟨rfl, rfl⟩
theorem wnone_nil (w : World) : Calls Try.prog 36 #[.pointer none] w fun e w' => w' = w ∧ e = .returned (.bool true) := by
  go_enter Try.func36, Try.ntmps36
  go_wp2
  go_ret
  exact ⟨rfl, rfl⟩
/-- A number that may not be laid. -/
def Wr.wrong (n : Int) : Bool := decide (n < 0) || decide (4611686018427387904 < n)
theorem wrongFn_any (n : Int) (w : World) : Calls Try.prog 38 #[.int .i64 n] w fun e w' => w' = w ∧ e = .returned (.bool (Wr.wrong n)) := by
  unfold Wr.wrong
  by_cases h : n < 0
  · have hd : decide (n < 0) = true := decide_eq_true h
    rw [hd]
    go_enter Try.func38, Try.ntmps38
    go_wp2
    go_ret
    exact ⟨rfl, rfl⟩
  · have hd : decide (n < 0) = false := decide_eq_false h
    rw [hd, Bool.false_or]
    obtain ⟨b, hb⟩ : ∃ b, decide (4611686018427387904 < n) = b := ⟨_, rfl⟩
    rw [hb]
    go_enter Try.func38, Try.ntmps38
    go_wp2
    go_ret
    exact ⟨rfl, rfl⟩
theorem indexFn_any (A : Option Addr) (n c : Nat) (l : List Int) (w : World) (hn : l.length = n) (hm : n ≤ 1000000000) (hr : RdV w A (l.map numV)) :
    Calls Try.prog 67 #[.slice A n c, .func (.func 38) #[] #[]] w fun e w' => w' = w ∧ ∃ k : Int, e = .returned (.int .i64 k) ∧ decide (0 ≤ k) = l.any Wr.wrong := by
  have HN := Lib.hid hn
  clear hn
  go_enter Try.func67, Try.ntmps67
  go_wp2_with fail
  go_loopw [8] (fun t wr => wr = w ∧ ∃ i : Nat, i ≤ n ∧ t = .int .i64 (i : Int) ∧ (l.take i).any Wr.wrong = false) (fun t _ => n - (intOf t).toNat)
  case atStart => exact ⟨rfl, 0, by omega, rfl, rfl⟩
  case round =>
    obtain ⟨rfl, i, hi, rfl, hany⟩ := hrel
    by_cases hlt : i < n
    · have hd : decide ((i : Int) < (n : Int)) = true := decide_eq_true (by omega)
      have hd' : decide (i < n) = true := decide_eq_true hlt
      have hil : i < l.length := by rw [HN.out]; exact hlt
      obtain ⟨b, o, rfl, hc⟩ := hr.at_ (k := i) (by simpa using hil)
      rw [List.getElem_map] at hc
      have hnx : l.take (i + 1) = l.take i ++ [l[i]] := List.take_succ_eq_append_getElem hil
      have hsp : l = l.take i ++ (l[i] :: l.drop (i + 1)) := by simp
      generalize hx : l[i] = x at *
      have HNX := Lib.hid hnx
      have HSP := Lib.hid hsp
      clear hnx hsp hr
      by_cases hw : Wr.wrong x = true
      · go_wp2_with (first
          | (go_at_call 38; refine (wrongFn_any x _).mono ?_; rintro e w2 ⟨rfl, rfl⟩; rw [hw])
          | fail)
        go_ret
        refine ⟨rfl, _, rfl, ?_⟩
        rw [HSP.out]
        simp [hw]
      · have hw' : Wr.wrong x = false := by simpa using hw
        go_wp2_with (first
          | (go_at_call 38; refine (wrongFn_any x _).mono ?_; rintro e w2 ⟨rfl, rfl⟩; rw [hw'])
          | fail)
        go_roundw
        case rel => exact ⟨trivial, i + 1, by omega, by go_num, by rw [HNX.out, List.any_append, hany]; simp [hw']⟩
        case measure => simp [intOf]; omega
    · obtain rfl : i = n := by omega
      have hd : decide ((i : Int) < (i : Int)) = false := decide_eq_false (by omega)
      rw [List.take_of_length_le (by rw [HN.out]; exact Nat.le_refl _)] at hany
      go_wp2_with fail
      go_ret
      exact ⟨rfl, _, rfl, by rw [hany]; rfl⟩
theorem containsFn_any (A : Option Addr) (n c : Nat) (l : List Int) (w : World) (hn : l.length = n) (hm : n ≤ 1000000000) (hr : RdV w A (l.map numV)) :
    Calls Try.prog 37 #[.slice A n c, .func (.func 38) #[] #[]] w fun e w' => w' = w ∧ e = .returned (.bool (l.any Wr.wrong)) := by
  have hi := indexFn_any A n c l w hn hm hr
  go_enter Try.func37, Try.ntmps37
  go_wp2_with (first
    | (go_at_call 67; refine hi.mono ?_; clear hi; rintro e w2 ⟨rfl, k, rfl, hk⟩)
    | fail)
  go_ret
  exact ⟨rfl, by rw [← hk]; rfl⟩
def Wr.nums (l : List Int) : List UInt8 := l.flatMap Wr.nb
theorem Wr.nums_len (l : List Int) : (Wr.nums l).length ≤ 9 * l.length := by
  induction l with
  | nil => simp [Wr.nums]
  | cons x l ih =>
    have := Wr.nb_le x
    unfold Wr.nums at *
    rw [List.flatMap_cons, List.length_append, List.length_cons]
    omega
theorem Wr.wrong_lt {x : Int} (h : Wr.wrong x = false) : x < 9223372036854775808 := by
  unfold Wr.wrong at h
  simp at h
  omega
set_option maxRecDepth 100000 in
set_option maxHeartbeats 1000000 in
theorem wNumber_any (g : Nat) (r : Option Nat) (l0 : List UInt8) (A : Option Addr) (n c : Nat) (l : List Int) (w : World) (hn : l.length = n) (hm : n ≤ 1000000) (hl0 : l0.length ≤ 100000000) (hr : RdV w A (l.map numV)) (hA : ∀ b o, A = some ⟨b, o, none⟩ → l ≠ [] → b ≠ g ∧ some b ≠ r) (hw : IsWr w g r l0) :
    Calls Try.prog 11 #[.pointer (some ⟨g, 0, none⟩), .slice A n c] w fun e w' => (l.any Wr.wrong = true ∧ w' = w ∧ e = .returned (.int .i64 2)) ∨ (l.any Wr.wrong = false ∧ e = .returned (.int .i64 0) ∧ ∃ r', IsWr w' g r' (l0 ++ Wr.nums l) ∧ Wrote w w' g r r') := by
  have hct := containsFn_any A n c l w hn (by omega) hr
  obtain ⟨v, hrow, hown, hv, hrg⟩ := hw
  have HN := Lib.hid hn
  clear hn
  have hno := wnone_yes g v true w hrow
  cases hany : l.any Wr.wrong with
  | true =>
    rw [hany] at hct
    go_enter Try.func11, Try.ntmps11
    go_wp2_with (first
      | (go_at_call 36; refine hno.mono ?_; clear hno; rintro e w2 ⟨rfl, rfl⟩)
      | (go_at_call 37; refine hct.mono ?_; clear hct; rintro e w2 ⟨rfl, rfl⟩)
      | fail)
    go_ret
    exact .inl ⟨trivial, rfl, rfl⟩
  | false =>
    rw [hany] at hct
    have HANY := Lib.hid hany
    clear hany
    have hw : IsWr w g r l0 := ⟨v, hrow, hown, hv, hrg⟩
    clear hrow hown hv
    go_enter Try.func11, Try.ntmps11
    go_wp2_with (first
      | (go_at_call 36; refine hno.mono ?_; clear hno; rintro e w2 ⟨rfl, rfl⟩)
      | (go_at_call 37; refine hct.mono ?_; clear hct; rintro e w2 ⟨rfl, rfl⟩)
      | fail)
    have hgl := hw.lt.1
    go_loopw [15] (fun t wr => ∃ i : Nat, i ≤ n ∧ t = .int .i64 (i : Int) ∧ ∃ r1, IsWr wr g r1 (l0 ++ Wr.nums (l.take i)) ∧ Wrote w2 wr g r r1) (fun t _ => n - (intOf t).toNat)
    case atStart => exact ⟨0, by omega, rfl, r, by simpa [Wr.nums] using hw, Wrote.refl _ _ _⟩
    case round =>
      obtain ⟨i, hi, rfl, r1, ⟨v1, hrow1, hown1, hv1, hne1⟩, hwr⟩ := hrel
      by_cases hlt : i < n
      · have hd : decide ((i : Int) < (n : Int)) = true := decide_eq_true (by omega)
        have hd' : decide (i < n) = true := decide_eq_true hlt
        have hil : i < l.length := by rw [HN.out]; exact hlt
        have hr1 : RdV wr A (l.map numV) := hr.same hwr.1 (fun b o e hne hb => ⟨hb, hA b o e (by intro h; subst h; exact hne rfl)⟩)
        obtain ⟨b, o, rfl, hc⟩ := hr1.at_ (k := i) (by simpa using hil)
        rw [List.getElem_map] at hc
        have hnx : Wr.nums (l.take (i + 1)) = Wr.nums (l.take i) ++ Wr.nb l[i] := by rw [List.take_succ_eq_append_getElem hil, Wr.nums, List.flatMap_append, List.flatMap_cons, List.flatMap_nil, List.append_nil]; rfl
        have hxw : Wr.wrong l[i] = false := by
          have := HANY.out
          rw [List.any_eq_false] at this
          simpa using this _ (List.getElem_mem hil)
        have hlen := Wr.nums_len (l.take i)
        rw [List.length_take] at hlen
        have hc1 : wr.cell? ⟨g, 0, none⟩ = some v1 := (hrow1.cell 0).trans rfl
        generalize l[i] = x at *
        have HNX := Lib.hid hnx
        clear hnx hr1
        have hnum := number_any v1 (l0 ++ Wr.nums (l.take i)) x 0 wr (Wr.wrong_lt hxw) (by rw [List.length_append]; omega) (Nat.zero_le _) hown1
        go_wp2_with (first
          | (go_at_call 39; refine hnum.mono ?_; clear hnum; rintro e w3 ⟨v3, rfl, hown3, hgr3⟩; obtain ⟨A3, n3, c3, rfl⟩ := hown3.shape; have hrow3 := hrow1.grown hgr3.1 (fun e => hne1 (hv1 ▸ e.symm)); have hc3 : w3.cell? ⟨g, 0, none⟩ = some v1 := (hrow3.cell 0).trans rfl; have hf3 : w3.frozen? ⟨g, 0, none⟩ = false := hrow3.frozen 0; have HO := Lib.hid hown3; clear hown3 hrow3)
          | fail)
        obtain ⟨hws, hwr2⟩ := wr_step hrow1 (hv1.symm ▸ hne1) HO.out hgr3
        rw [List.append_assoc, ← HNX.out] at hws
        go_roundw
        case rel => exact ⟨i + 1, by omega, by go_num, _, hws, hwr.trans (hv1 ▸ hwr2)⟩
        case measure => simp [intOf]; omega
      · obtain rfl : i = n := by omega
        have hd : decide ((i : Int) < (i : Int)) = false := decide_eq_false (by omega)
        have hd' : decide (i < i) = false := decide_eq_false (by omega)
        rw [List.take_of_length_le (by rw [HN.out]; exact Nat.le_refl _)] at hown1
        go_wp2_with fail
        go_ret
        exact .inr ⟨trivial, rfl, r1, ⟨v1, hrow1, hown1, hv1, hne1⟩, hwr⟩
end Go.Proofs.Ytmipaacobioakaa
