/- Joined: Mm0, Mm1, Mm1b, Mm2, Mm3, Mm4. -/
import Derived.Test.YtcfhhljjknmniaaGreatDoorMb1
import Derived.Lib.LaidTab
import Derived.ScopeJumps
import Derived.Deep.DeepCutAuto
import Derived.Deep.QuietTactic
set_option linter.unusedVariables false
set_option linter.unusedSimpArgs false
namespace Go.Proofs.YtcfhhljjknmniaaGreatDoor
open Go.RowKit Go.ChangeShapes Go.WideShapes Go.ChangeAt
/-- The blocks of which p holds are as they were; the streams too; no block has gone. -/
structure Same (p : Nat → Prop) (w w' : World) : Prop where
  os : w'.os = w.os
  tape : w'.tape = w.tape
  output : w'.output = w.output
  size : w.heap.size ≤ w'.heap.size
  block : ∀ k, p k → w'.heap[k]? = w.heap[k]?
theorem Same.refl (p : Nat → Prop) (w : World) : Same p w w := ⟨rfl, rfl, rfl, Nat.le_refl _, fun _ _ => rfl⟩
theorem Same.trans {p : Nat → Prop} {a b c : World} (h : Same p a b) (k : Same p b c) : Same p a c := ⟨k.os.trans h.os, k.tape.trans h.tape, k.output.trans h.output, Nat.le_trans h.size k.size, fun i hi => (k.block i hi).trans (h.block i hi)⟩
theorem Same.mono {p q : Nat → Prop} {a b : World} (h : Same p a b) (hq : ∀ k, q k → p k) : Same q a b := ⟨h.os, h.tape, h.output, h.size, fun k hk => h.block k (hq k hk)⟩
theorem Same.below {B : Nat} {a b : World} (h : Same (fun k => k < B) a b) : Below B a b := ⟨h.os, h.tape, h.output, h.size, h.block⟩
theorem Same.of_below {B : Nat} {a b : World} (h : Below B a b) : Same (fun k => k < B) a b := ⟨h.os, h.tape, h.output, h.size, h.block⟩
theorem Same.of_grown {row : Option Nat} {a b : World} (h : a.grownBy b row) : Same (fun k => k < a.heap.size ∧ some k ≠ row) a b := ⟨h.os, h.tape, h.output, h.size, fun k hk => h.block k hk.1 hk.2⟩
theorem Same.set (w : World) (p : Addr) (v : Value) : Same (fun k => k ≠ p.block) w (w.setCell p v) := ⟨rfl, rfl, rfl, by simp [World.setCell], fun k hk => Below.heap_setCell w p v k hk⟩
theorem Same.alloc (w : World) (o : Obj) : Same (fun k => k < w.heap.size) w (w.alloc o) := ⟨rfl, rfl, rfl, by simp, fun k hk => Below.heap_alloc w o k hk⟩
theorem Row.same {p : Nat → Prop} {w w' : World} {g : Nat} {t : TypeId} {cs : Array Value} (h : Row w g t cs) (hs : Same p w w') (hg : p g) : Row w' g t cs := (hs.block g hg).trans h
theorem Rd.same {p : Nat → Prop} {w w' : World} {A : Option Addr} {l : List UInt8} (h : Rd w A l) (hs : Same p w w') (hg : ∀ b o, A = some ⟨b, o, none⟩ → l ≠ [] → p b) : Rd w' A l := fun hl => by
  obtain ⟨b, o, e, hc⟩ := h hl
  exact ⟨b, o, e, fun i hi => (World.cell?_of_block (w := w) (a := ⟨b, o + i, none⟩) (hs.block b (hg b o e hl))).trans (hc i hi)⟩
abbrev numV (z : Int) : Value := .int .i64 z
def RdV (w : World) (A : Option Addr) (vs : List Value) : Prop :=
  vs ≠ [] → ∃ b o, A = some ⟨b, o, none⟩ ∧ ∀ i (h : i < vs.length), w.cell? ⟨b, o + i, none⟩ = some vs[i]
theorem RdV.nil (w : World) (A : Option Addr) : RdV w A [] := fun h => absurd rfl h
theorem RdV.keep {w w' : World} {A : Option Addr} {vs : List Value} (h : RdV w A vs) (hk : ∀ b, (∃ o, A = some ⟨b, o, none⟩) → vs ≠ [] → b < w.heap.size → w'.heap[b]? = w.heap[b]?) : RdV w' A vs := fun hl => by
  obtain ⟨b, o, e, hc⟩ := h hl
  have hb : b < w.heap.size := block_lt_of_cell (hc 0 (List.length_pos_iff.2 hl))
  exact ⟨b, o, e, fun i hi => (World.cell?_of_block (w := w) (a := ⟨b, o + i, none⟩) (hk b ⟨o, e⟩ hl hb)).trans (hc i hi)⟩
theorem RdV.below {w w' : World} {A : Option Addr} {vs : List Value} (h : RdV w A vs) (hb : Below w.heap.size w w') : RdV w' A vs := h.keep fun b _ _ hl => hb.block b hl
theorem RdV.later {w w' : World} {A : Option Addr} {vs : List Value} (h : RdV w A vs) (hb : Later w w') : RdV w' A vs := h.below hb
theorem RdV.same {p : Nat → Prop} {w w' : World} {A : Option Addr} {vs : List Value} (h : RdV w A vs) (hs : Same p w w') (hp : ∀ b o, A = some ⟨b, o, none⟩ → vs ≠ [] → b < w.heap.size → p b) : RdV w' A vs := h.keep fun b ⟨o, e⟩ hl hb => hs.block b (hp b o e hl hb)
theorem RdV.alloc {w : World} {A : Option Addr} {vs : List Value} (h : RdV w A vs) (o : Obj) : RdV (w.alloc o) A vs := h.below (below_new w o)
theorem RdV.drew {w : World} {A : Option Addr} {vs : List Value} (h : RdV w A vs) : RdV w.drew A vs := h
theorem RdV.at_ {w : World} {A : Option Addr} {vs : List Value} (h : RdV w A vs) {k : Nat} (hk : k < vs.length) : ∃ b o, A = some ⟨b, o, none⟩ ∧ w.cell? ⟨b, o + k, none⟩ = some vs[k] := by
  obtain ⟨b, o, e, hc⟩ := h (by intro e; subst e; simp at hk)
  exact ⟨b, o, e, hc k hk⟩
theorem RdV.row {w : World} {g : Nat} {t : TypeId} {vs : List Value} (h : Row w g t vs.toArray) : RdV w (some ⟨g, 0, none⟩) vs := fun _ =>
  ⟨g, 0, rfl, fun i hi => by rw [h.cell, Nat.zero_add, List.getElem?_toArray, List.getElem?_eq_getElem hi]⟩
section
variable {H : Type} {enc : TypeId × Value → H} {P : Program} {w : World} {held : Bool}
theorem rdV_of {A : Addr} {vs : List Value} (h : ∀ i (hi : i < vs.length), w.cell? (A.add i) = some vs[i]) : RdV w (some A) vs := fun hne => by
  have h0 : 0 < vs.length := List.length_pos_iff.2 hne
  obtain ⟨b, o, rfl⟩ : ∃ b o, A = ⟨b, o, none⟩ := ⟨_, _, addr_none (h 0 h0)⟩
  exact ⟨b, o, rfl, fun i hi => by have := h i hi; rwa [addr_add] at this⟩
theorem in_nums {t e : TypeId} {fuel : Nat} {v : Value} {x : DataW H × List MemPlace} (ht : P.underlying t = some (.slice e)) (he : P.underlying e = some (.int .i64)) (hc : P.cellsOf e = 1)
    (h : DataW.trod enc P w 0 (fun _ => true) held fuel t [v] = some x) : ∃ (l : List Int) (A : Option Addr) (c : Nat), v = .slice A l.length c ∧ l.length ≤ c ∧ c ≤ maxLen ∧ RdV w A (l.map numV) := by
  rcases open_ints ht he hc h with ⟨hcs, _⟩ | ⟨ad, len, cap, zs, hcs, _, hl, hm, hz, _, hcell, hwz⟩
  · injection hcs with h1
    subst h1
    exact ⟨[], none, 0, rfl, Nat.le_refl _, Nat.zero_le _, RdV.nil _ _⟩
  · injection hcs with h1
    subst h1
    simp only [if_true] at hz
    have hlen : (zs.take len).length = len := by rw [List.length_take]; omega
    refine ⟨zs.take len, some ad, cap, by rw [hlen], by omega, hm, rdV_of fun i hi => ?_⟩
    have hi' : i < len := by rw [List.length_map, hlen] at hi; exact hi
    have := hcell i (by omega)
    have e : zs.getD i 0 = zs[i]'(by omega) := by simp [List.getD, show i < zs.length by omega]
    rw [this, e]
    simp
end
theorem Calls.post {P : Program} {f : FuncId} {args : Array Value} {w : World} {R : Ending → World → Prop} (h : ∀ Φ : Ending → World → Prop, Hid (∀ e w', R e w' → Φ e w') → Calls P f args w Φ) : Calls P f args w R := h R (Lib.hid fun _ _ h => h)
end Go.Proofs.YtcfhhljjknmniaaGreatDoor
namespace Go.Proofs.YtcfhhljjknmniaaGreatDoor
open Go.RowKit
def bad (most z : Int) : Bool := decide (z < 0) || decide (most < z)
def maxAmt : Int := 1125899906842624
/-- All are amounts. -/
def amts (zs : List Int) : Bool := !zs.any (bad maxAmt)
theorem in1_any (g : Nat) (z most : Int) (w : World) (hg : w.cell? ⟨g, 0, none⟩ = some (.int .i64 most)) :
    Calls Tryz.prog 38 #[.int .i64 z, .pointer (some ⟨g, 0, none⟩)] w fun e w' => e = .returned (.bool (bad most z)) ∧ w = w' := by
  by_cases h : z < 0
  · have e1 : decide (z < 0) = true := decide_eq_true h
    have e2 : bad most z = true := by simp [bad, h]
    rw [e2]
    go_enter Tryz.func38, Tryz.ntmps38
    go_wp2
    go_ret
    exact ⟨rfl, rfl⟩
  · have e1 : decide (z < 0) = false := decide_eq_false h
    have e2 : bad most z = decide (most < z) := by simp [bad, h]
    rw [e2]
    go_enter Tryz.func38, Tryz.ntmps38
    go_wp2
    go_ret
    exact ⟨rfl, rfl⟩
theorem take_any {α : Type} {p : α → Bool} {l : List α} {k : Nat} (hk : k < l.length) : (l.take (k + 1)).any p = ((l.take k).any p || p l[k]) := by
  rw [List.take_add_one, List.getElem?_eq_getElem hk, Option.toList_some, List.any_append, List.any_cons, List.any_nil, Bool.or_false]
theorem any_take {α : Type} {p : α → Bool} {l : List α} {k : Nat} (h : (l.take k).any p = true) : l.any p = true := by
  rw [List.any_eq_true] at h ⊢
  obtain ⟨x, hx, hp⟩ := h
  exact ⟨x, List.mem_of_mem_take hx, hp⟩
set_option maxRecDepth 100000 in
theorem idxFn_any (g : Nat) (most : Int) (A : Option Addr) (n c : Nat) (zs : List Int) (w : World) (hn : zs.length = n) (hm : n ≤ 9223372036854775807) (hr : RdV w A (zs.map numV)) (hg : w.cell? ⟨g, 0, none⟩ = some (.int .i64 most)) :
    Calls Tryz.prog 56 #[.slice A n c, .func (.func 38) #[] #[.pointer (some ⟨g, 0, none⟩)]] w fun e w' => (∃ k : Int, e = .returned (.int .i64 k) ∧ decide (0 ≤ k) = zs.any (bad most)) ∧ w = w' := by
  refine Calls.post fun Φ HΦ => ?_
  have HN := Lib.hid hn
  clear hn
  go_enter Tryz.func56, Tryz.ntmps56
  go_wp2_with fail
  go_loopw [8] (fun t wr => ∃ k : Nat, k ≤ n ∧ t = .int .i64 k ∧ w = wr ∧ (zs.take k).any (bad most) = false) (fun t _ => n - (intOf t).toNat)
  case atStart => exact ⟨0, by omega, rfl, rfl, by simp⟩
  case round =>
    obtain ⟨k, hk, rfl, rfl, hany⟩ := hrel
    by_cases hlt : k < n
    · have hd : decide ((k : Int) < (n : Int)) = true := decide_eq_true (by omega)
      have hd' : decide (k < n) = true := decide_eq_true hlt
      have hkl : k < zs.length := by rw [HN.out]; exact hlt
      obtain ⟨b, o, rfl, hc⟩ := hr.at_ (k := k) (by simpa using hkl)
      rw [List.getElem_map] at hc
      obtain ⟨z, hz⟩ : ∃ z, zs[k] = z := ⟨_, rfl⟩
      have htk := take_any (p := bad most) hkl
      rw [hany, hz, Bool.false_or] at htk
      rw [hz] at hc
      cases hb : bad most z with
      | true =>
        rw [hb] at htk
        have hyes := any_take htk
        clear hany htk hz
        go_wp2_with (first
          | (go_at_call 38; refine (in1_any g z most w hg).mono ?_; rintro e w' ⟨rfl, rfl⟩; rw [hb])
          | fail)
        exact HΦ.out _ _ ⟨⟨k, rfl, by rw [hyes]; exact decide_eq_true (by omega)⟩, rfl⟩
      | false =>
        rw [hb] at htk
        clear hany hz
        go_wp2_with (first
          | (go_at_call 38; refine (in1_any g z most w hg).mono ?_; rintro e w' ⟨rfl, rfl⟩; rw [hb])
          | fail)
        go_roundw
        case rel => exact ⟨k + 1, by omega, by go_num, (by first | rfl | trivial), htk⟩
        case measure => simp [intOf]; omega
    · obtain rfl : k = n := by omega
      have hd : decide ((k : Int) < (k : Int)) = false := decide_eq_false (by omega)
      have hd' : decide (k < k) = false := decide_eq_false (by omega)
      rw [List.take_of_length_le (by rw [HN.out]; exact Nat.le_refl _)] at hany
      go_wp2_with fail
      exact HΦ.out _ _ ⟨⟨-1, rfl, by rw [hany]; rfl⟩, rfl⟩
theorem containsFn_any (g : Nat) (most : Int) (A : Option Addr) (n c : Nat) (zs : List Int) (w : World) (hn : zs.length = n) (hm : n ≤ 9223372036854775807) (hr : RdV w A (zs.map numV)) (hg : w.cell? ⟨g, 0, none⟩ = some (.int .i64 most)) :
    Calls Tryz.prog 37 #[.slice A n c, .func (.func 38) #[] #[.pointer (some ⟨g, 0, none⟩)]] w fun e w' => e = .returned (.bool (zs.any (bad most))) ∧ w = w' := by
  have hi := idxFn_any g most A n c zs w hn hm hr hg
  go_enter Tryz.func37, Tryz.ntmps37
  go_wp2_with (first
    | (go_at_call 56; refine hi.mono ?_; clear hi; rintro e w' ⟨⟨k, rfl, hk⟩, rfl⟩)
    | fail)
  go_ret
  exact ⟨by rw [← hk]; rfl, rfl⟩
theorem in_any (most : Int) (A : Option Addr) (n c : Nat) (zs : List Int) (w : World) (hn : zs.length = n) (hm : n ≤ 9223372036854775807) (hr : RdV w A (zs.map numV)) :
    Calls Tryz.prog 27 #[.int .i64 most, .slice A n c] w fun e w' => e = .returned (.bool (!zs.any (bad most))) ∧ Below w.heap.size w w' := by
  have hL := (Later.refl w).alloc (.cells #[.int .i64 most] 2)
  have hc := containsFn_any w.heap.size most A n c zs _ hn hm (hr.later hL) (((Row.new w 2 #[.int .i64 most]).cell 0).trans rfl)
  clear hr hn
  go_enter Tryz.func27, Tryz.ntmps27
  go_wp2_with (first
    | (go_at_call 37; refine hc.mono ?_; clear hc; rintro e w' ⟨rfl, rfl⟩)
    | fail)
  go_ret
  exact ⟨rfl, hL⟩
theorem check_any (A : Option Addr) (n c : Nat) (zs : List Int) (w : World) (hn : zs.length = n) (hm : n ≤ 9223372036854775807) (hr : RdV w A (zs.map numV)) :
    Calls Tryz.prog 24 #[.slice A n c] w fun e w' => e = .returned (.int .i64 (if amts zs then 0 else 2)) ∧ Below w.heap.size w w' := by
  have hi := in_any maxAmt A n c zs w hn hm hr
  unfold maxAmt at hi
  unfold amts maxAmt
  clear hr hn
  cases hb : zs.any (bad 1125899906842624) with
  | true =>
    rw [hb] at hi
    go_enter Tryz.func24, Tryz.ntmps24
    go_wp2_with (first
      | (go_at_call 27; refine hi.mono ?_; clear hi; rintro e w' ⟨rfl, hL⟩)
      | fail)
    go_ret
    exact ⟨rfl, hL⟩
  | false =>
    rw [hb] at hi
    go_enter Tryz.func24, Tryz.ntmps24
    go_wp2_with (first
      | (go_at_call 27; refine hi.mono ?_; clear hi; rintro e w' ⟨rfl, hL⟩)
      | fail)
    go_ret
    exact ⟨rfl, hL⟩
theorem num5_any (n : Int) (w : World) : Calls Tryz.prog 9 #[.int .i64 n] w fun e w' => e = .returned (.int .i64 n) ∧ w = w' := by
  go_enter Tryz.func9, Tryz.ntmps9
  go_wp2
  go_ret
  exact ⟨rfl, rfl⟩
theorem right5_any (z : Int) (w : World) : Calls Tryz.prog 18 #[.int .i64 z] w fun e w' => e = .returned (.bool (!bad maxAmt z)) ∧ w = w' := by
  unfold maxAmt
  by_cases h : 0 ≤ z
  · have e1 : decide (0 ≤ z) = true := decide_eq_true h
    have e2 : (!bad 1125899906842624 z) = decide (z ≤ 1125899906842624) := by
      by_cases h2 : z ≤ 1125899906842624
      · have : ¬ z < 0 := by omega
        have : ¬ 1125899906842624 < z := by omega
        simp [bad, *]
      · have : 1125899906842624 < z := by omega
        simp [bad, *]
    rw [e2]
    go_enter Tryz.func18, Tryz.ntmps18
    go_wp2
    go_ret
    exact ⟨rfl, rfl⟩
  · have e1 : decide (0 ≤ z) = false := decide_eq_false h
    have e2 : (!bad 1125899906842624 z) = false := by
      have : z < 0 := by omega
      simp [bad, this]
    rw [e2]
    go_enter Tryz.func18, Tryz.ntmps18
    go_wp2
    go_ret
    exact ⟨rfl, rfl⟩
end Go.Proofs.YtcfhhljjknmniaaGreatDoor
namespace Go.Proofs.YtcfhhljjknmniaaGreatDoor
open Go.RowKit
def OwnZ (w : World) (base : Nat) (v : Value) (zs : List Int) : Prop := w.ownsRow base 2 1 v zs.length (zs.map numV)
theorem OwnZ.at_ {w : World} {base : Nat} {v : Value} {zs : List Int} (h : OwnZ w base v zs) : ∀ k, v.ownBlock = some k → base ≤ k ∧ k < w.heap.size := World.ownsRow.lt h
theorem OwnZ.keep {w w' : World} {base : Nat} {v : Value} {zs : List Int} (h : OwnZ w base v zs) (hk : ∀ b, b < w.heap.size → v.ownBlock = some b → w'.heap[b]? = w.heap[b]?) : OwnZ w' base v zs := by
  obtain ⟨h1, h2⟩ := h
  refine ⟨h1, ?_⟩
  rcases h2 with h2 | ⟨g, cap, cur, e, hb, hh, hr⟩
  · exact .inl h2
  · exact .inr ⟨g, cap, cur, e, hb, (hk g (Array.getElem?_eq_some_iff.1 hh).1 (by rw [e]; rfl)).trans hh, hr⟩
theorem OwnZ.later {w w' : World} {base : Nat} {v : Value} {zs : List Int} (h : OwnZ w base v zs) (hL : Later w w') : OwnZ w' base v zs := h.keep fun b hb _ => Below.block hL b hb
theorem OwnZ.nil (w : World) (base : Nat) : OwnZ w base (.slice none 0 0) [] := ⟨rfl, .inl ⟨rfl, rfl⟩⟩
theorem OwnZ.slice {w : World} {base : Nat} {v : Value} {zs : List Int} (h : OwnZ w base v zs) : ∃ A c, v = .slice A zs.length c ∧ zs.length ≤ c ∧ c ≤ maxLen ∧ RdV w A (zs.map numV) := by
  obtain ⟨h1, h2⟩ := h
  rcases h2 with ⟨rfl, hn⟩ | ⟨g, cap, cur, rfl, hb, hh, hn, hc, hs, ht⟩
  · have : zs = [] := List.eq_nil_of_length_eq_zero hn
    subst this
    exact ⟨none, 0, rfl, Nat.le_refl _, Nat.zero_le _, RdV.nil _ _⟩
  · refine ⟨_, cap, rfl, hn, hc, fun _ => ⟨g, 0, rfl, fun i hi => ?_⟩⟩
    have e := cell_of_row w g (0 + i) cur 2 (0, 0) hh
    have hi' : i < zs.length := by simpa using hi
    rw [e, Nat.zero_add]
    have h3 : (cur.toList.take (zs.length * 1))[i]? = (zs.map numV)[i]? := by rw [ht]
    rw [List.getElem?_take_of_lt (by omega), Array.getElem?_toList] at h3
    rw [h3, List.getElem?_eq_getElem hi]
/-- A row of just these. -/
theorem OwnZ.row {w : World} {g base : Nat} {zs : List Int} (h : Row w g 2 (zs.map numV).toArray) (hb : base ≤ g) (hm : zs.length ≤ maxLen) : OwnZ w base (.slice (some ⟨g, 0, none⟩) zs.length zs.length) zs :=
  ⟨by simp, .inr ⟨g, zs.length, _, rfl, hb, h, Nat.le_refl _, hm, by simp, by simp [List.take_of_length_le]⟩⟩
theorem infoZ : (Tryz.prog.info? 2).map (fun i => (i.zero, i.size, i.bytes)) = some (some (.int .i64 0), 1, 8) := by kernel_rfl
set_option maxRecDepth 100000 in
theorem run_append_ints (w : World) (base : Nat) (ty : TypeId) (v : Value) (l : List Int) (hown : OwnZ w base v l)
    (A : Option Addr) (m c : Nat) (k : List Int) (hm : k.length = m) (hr : RdV w A (k.map numV)) (hlen : l.length + m ≤ 10000000000) (hbase : base ≤ w.heap.size) :
    ∃ v' w', (Builtin.append_ #[33, 33] ty #[v, .slice A m c]).run Tryz.prog w = .ok v' w' ∧ OwnZ w' base v' (l ++ k) ∧ w.grownBy w' v.ownBlock ∧ (v'.ownBlock = v.ownBlock ∨ v'.ownBlock = some w.heap.size) := by
  obtain ⟨i, hi0, he⟩ := Option.map_eq_some_iff.1 infoZ
  injection he with hz he
  injection he with hs hb
  subst hm
  rcases A with _ | ad
  · have hk : k = [] := by
      rcases k with _ | ⟨x, k⟩
      · rfl
      · obtain ⟨b, o, e, _⟩ := hr (by simp)
        cases e
    subst hk
    refine ⟨v, w, ?_, by simpa using hown, ⟨rfl, rfl, rfl, Nat.le_refl _, fun _ _ _ => rfl⟩, .inl rfl⟩
    rcases hown.2 with ⟨rfl, hn⟩ | ⟨g, cap, cur, rfl, _, _, hnc, _⟩
    · simp [Builtin.append_, run_underlying Tryz.underlying33, sizeOf, typeInfo, hi0, Builtin.lenOf, Builtin.firstCells]
    · simp [Builtin.append_, run_underlying Tryz.underlying33, sizeOf, typeInfo, hi0, Builtin.lenOf, Builtin.firstCells, hnc, storeCells]
  · obtain ⟨v', w', h1, h2, h3, _, h5⟩ := run_append_own_at (P := Tryz.prog) w base 33 ty 2 i _ 1 8 Tryz.underlying33 hi0 hz hs hb rfl (by omega) v l.length (l.map numV) hown ad k.length c (k.map numV) (by simp)
      (fun j u hu => by
        rw [List.getElem?_map] at hu
        have hj : j < k.length := by
          rcases Nat.lt_or_ge j k.length with h | h
          · exact h
          · rw [List.getElem?_eq_none h] at hu; cases hu
        rw [List.getElem?_eq_getElem hj] at hu
        obtain ⟨b, o, e, hc⟩ := hr (by intro e; rw [List.map_eq_nil_iff] at e; subst e; simp at hj)
        injection e with e
        subst e
        rw [Option.map_some] at hu
        have hcj := hc j (by simpa using hj)
        rw [List.getElem_map] at hcj
        rw [← hu, ← hcj]
        rcases Nat.eq_zero_or_pos j with rfl | hp
        · rfl
        · simp [Addr.add, Nat.ne_of_gt hp])
      (fun u hu => by obtain ⟨x, _, rfl⟩ := List.mem_map.1 hu; rfl) (by unfold maxLen; omega) (by omega) hbase
    exact ⟨v', w', h1, by unfold OwnZ; rw [List.length_append, List.map_append]; exact h2, h3, h5⟩
set_option maxRecDepth 100000 in
theorem wpList_append_ints {w : World} {ops : Array Oper} {rest : List Oper} {o : Oper} {a : Act} {Q : Exit → Act → World → Prop} (hgd : o.guard = none) (s x : Operand)
    (ho : o.op = .call { callee := .builtin .append, args := #[s, x], argTypes := #[33, 33] }) (base : Nat)
    (v : Value) (l : List Int) (hs : a.eval s = v) (hown : OwnZ w base v l)
    (A : Option Addr) (m c : Nat) (k : List Int) (hx : a.eval x = .slice A m c) (hm : k.length = m) (hr : RdV w A (k.map numV)) (hlen : l.length + m ≤ 10000000000) (hbase : base ≤ w.heap.size)
    (h : ∀ v' w', OwnZ w' base v' (l ++ k) → w.grownBy w' v.ownBlock → (v'.ownBlock = v.ownBlock ∨ v'.ownBlock = some w.heap.size) → wpList Tryz.prog ops Q rest (a.put o.dst v') w') : wpList Tryz.prog ops Q (o :: rest) a w :=
  wpList_plain hgd fun _ hK => by
    obtain ⟨v', w', hr', h2, h3, h4⟩ := run_append_ints w base o.type v l hown A m c k hm hr hlen hbase
    unfold Oper.wp execOp
    simp only [ho, resolve, invoke, builtin, Sem.run_bind, Sem.run_pure, Result.andThen_ok, List.map_toArray, List.map_cons, List.map_nil, hs, hx, hr']
    exact hK _ _ (h v' w' h2 h3 h4)
theorem build1Z (x : Int) (W : World) : (Instr.buildSlice 33 1 #[(0, .int .i64 x)]).run Tryz.prog W = .ok (.slice (some ⟨W.heap.size, 0, none⟩) 1 1) (W.alloc (.cells #[.int .i64 x] 2)) := by kernel_rfl
theorem build2Z (x y : Int) (W : World) : (Instr.buildSlice 33 2 #[(0, .int .i64 x), (1, .int .i64 y)]).run Tryz.prog W = .ok (.slice (some ⟨W.heap.size, 0, none⟩) 2 2) (W.alloc (.cells #[.int .i64 x, .int .i64 y] 2)) := by kernel_rfl
theorem build3Z (x y z : Int) (W : World) : (Instr.buildSlice 33 3 #[(0, .int .i64 x), (1, .int .i64 y), (2, .int .i64 z)]).run Tryz.prog W = .ok (.slice (some ⟨W.heap.size, 0, none⟩) 3 3) (W.alloc (.cells #[.int .i64 x, .int .i64 y, .int .i64 z] 2)) := by kernel_rfl
theorem build0Z (W : World) : (Instr.buildSlice 33 0 #[]).run Tryz.prog W = .ok (.slice (some ⟨W.heap.size, 0, none⟩) 0 0) (W.alloc (.cells #[] 2)) := by kernel_rfl
theorem rd1Z (x : Int) (W : World) : RdV (W.alloc (.cells #[.int .i64 x] 2)) (some ⟨W.heap.size, 0, none⟩) ([x].map numV) := RdV.row (Row.new W 2 _)
theorem rd2Z (x y : Int) (W : World) : RdV (W.alloc (.cells #[.int .i64 x, .int .i64 y] 2)) (some ⟨W.heap.size, 0, none⟩) ([x, y].map numV) := RdV.row (Row.new W 2 _)
theorem rd3Z (x y z : Int) (W : World) : RdV (W.alloc (.cells #[.int .i64 x, .int .i64 y, .int .i64 z] 2)) (some ⟨W.heap.size, 0, none⟩) ([x, y, z].map numV) := RdV.row (Row.new W 2 _)
theorem own1Z (x : Int) (W : World) (base : Nat) (hb : base ≤ W.heap.size) : OwnZ (W.alloc (.cells #[.int .i64 x] 2)) base (.slice (some ⟨W.heap.size, 0, none⟩) 1 1) [x] := OwnZ.row (Row.new W 2 _) hb (Nat.le_of_ble_eq_true rfl)
theorem own0Z (W : World) (base : Nat) (hb : base ≤ W.heap.size) : OwnZ (W.alloc (.cells #[] 2)) base (.slice (some ⟨W.heap.size, 0, none⟩) 0 0) [] := OwnZ.row (Row.new W 2 _) hb (Nat.le_of_ble_eq_true rfl)
end Go.Proofs.YtcfhhljjknmniaaGreatDoor
namespace Go.Proofs.YtcfhhljjknmniaaGreatDoor
open Go.RowKit
theorem amts_mem {zs : List Int} (h : amts zs = true) : ∀ z ∈ zs, 0 ≤ z ∧ z ≤ maxAmt := fun z hz => by
  unfold amts at h
  simp only [Bool.not_eq_true'] at h
  rw [List.any_eq_false] at h
  have := h z hz
  unfold bad at this
  simp at this
  omega
theorem take_sum {zs : List Int} {k : Nat} (hk : k < zs.length) : (zs.take (k + 1)).sum = (zs.take k).sum + zs[k] := by
  rw [List.take_add_one, List.getElem?_eq_getElem hk, Option.toList_some, List.sum_append, List.sum_cons, List.sum_nil, Int.add_zero]
theorem sum_nn : ∀ {zs : List Int}, (∀ z ∈ zs, 0 ≤ z) → 0 ≤ zs.sum
  | [], _ => by simp
  | z :: zs, h => by
    have h1 := h z (by simp)
    have h2 := sum_nn (zs := zs) fun y hy => h y (by simp [hy])
    rw [List.sum_cons]; omega
theorem take_sum_le {zs : List Int} (h : ∀ z ∈ zs, 0 ≤ z) (k : Nat) : 0 ≤ (zs.take k).sum ∧ (zs.take k).sum ≤ zs.sum := by
  have h1 : 0 ≤ (zs.take k).sum := sum_nn fun z hz => h z (List.mem_of_mem_take hz)
  have h2 : 0 ≤ (zs.drop k).sum := sum_nn fun z hz => h z (List.mem_of_mem_drop hz)
  have h3 : (zs.take k ++ zs.drop k).sum = zs.sum := by rw [List.take_append_drop]
  rw [List.sum_append] at h3
  omega
def addS (zs : List Int) : Int × Int := if amts zs then (if maxAmt < zs.sum then (0, 150) else (zs.sum, 0)) else (0, 2)
theorem amts_false {zs : List Int} (h : amts zs = false) : addS zs = (0, 2) := by simp [addS, h]
theorem amts_over {zs : List Int} (h : amts zs = true) (h2 : maxAmt < zs.sum) : addS zs = (0, 150) := by simp [addS, h, h2]
theorem amts_sum {zs : List Int} (h : amts zs = true) (h2 : ¬ maxAmt < zs.sum) : addS zs = (zs.sum, 0) := by simp [addS, h, h2]
set_option maxRecDepth 100000 in
theorem add_any (A : Option Addr) (n c : Nat) (zs : List Int) (w : World) (hn : zs.length = n) (hm : n ≤ 9223372036854775807) (hr : RdV w A (zs.map numV)) :
    Calls Tryz.prog 16 #[.slice A n c] w fun e w' => e = .returned (.tuple #[.int .i64 (addS zs).1, .int .i64 (addS zs).2]) ∧ Below w.heap.size w w' := by
  refine Calls.post fun Φ HΦ => ?_
  have hck := check_any A n c zs w hn hm hr
  have HN := Lib.hid hn
  clear hn
  have hall := fun h : amts zs = true => amts_mem h
  go_enter Tryz.func16, Tryz.ntmps16
  go_wp2_with fail
  refine wp_scope_jumps 0 (fun a' w' => Below w.heap.size w w' ∧ ∃ (e : Int) (u0 u1 u2 u4 u5 u6 u7 u8 u9 u10 u11 u12 u13 u14 u15 u16 u17 u18 u19 u20 u21 u22 u23 : Value), a' = { tmps := #[u0, u1, u2, .int .i64 e, u4, u5, u6, u7, u8, u9, u10, u11, u12, u13, u14, u15, u16, u17, u18, u19, u20, u21, u22, u23], defers := [] } ∧ e = (addS zs).2 ∧ (addS zs).1 = 0) (fun _ _ => 0) rfl ?_ ?_
  · cases ha : amts zs with
    | false =>
      rw [ha] at hck
      have hS := amts_false ha
      go_wp2_with (first
        | (go_at_call 24; refine hck.mono ?_; clear hck; rintro e w1 ⟨rfl, hL⟩)
        | fail)
      go_step3
      exact ⟨rfl, hL, _, _, _, _, _, _, _, _, _, _, _, _, _, _, _, _, _, _, _, _, _, _, _, _, rfl, by rw [hS]; exact ⟨rfl, rfl⟩⟩
    | true =>
      rw [ha] at hck
      have hall := hall ha
      have hsl := fun k => take_sum_le (zs := zs) (fun z hz => (hall z hz).1) k
      have HA := Lib.hid ha
      clear ha
      go_wp2_with (first
        | (go_at_call 24; refine hck.mono ?_; clear hck; rintro e w1 ⟨rfl, hL⟩)
        | fail)
      go_loopw [2, 12] (fun t u wr => ∃ k : Nat, k ≤ n ∧ t = .int .i64 (zs.take k).sum ∧ u = .int .i64 k ∧ w1 = wr ∧ (zs.take k).sum ≤ 1125899906842624) (fun _ u _ => n - (intOf u).toNat)
      case atStart => exact ⟨0, by omega, by simp, rfl, rfl, by simp⟩
      case round =>
        obtain ⟨k, hk, rfl, rfl, rfl, hle⟩ := hrel
        by_cases hlt : k < n
        · have hd : decide ((k : Int) < (n : Int)) = true := decide_eq_true (by omega)
          have hd' : decide (k < n) = true := decide_eq_true hlt
          have hkl : k < zs.length := by rw [HN.out]; exact hlt
          obtain ⟨b, o, rfl, hc⟩ := (hr.later hL).at_ (k := k) (by simpa using hkl)
          rw [List.getElem_map] at hc
          have hz := hall zs[k] (List.getElem_mem hkl)
          have hts := take_sum hkl
          have hs1 := hsl (k + 1)
          have hs0 := hsl k
          obtain ⟨z, hze⟩ : ∃ z, zs[k] = z := ⟨_, rfl⟩
          obtain ⟨S, hSe⟩ : ∃ S, (zs.take k).sum = S := ⟨_, rfl⟩
          obtain ⟨T, hTe⟩ : ∃ T, zs.sum = T := ⟨_, rfl⟩
          rw [hze] at hc hz hts
          rw [hSe] at hts hs0 hle ⊢
          unfold maxAmt at hz
          by_cases hov : 1125899906842624 < S + z
          · have e1 : decide (1125899906842624 < S + z) = true := decide_eq_true hov
            have hA := amts_over HA.out (by unfold maxAmt; omega)
            have hwr := IntWalk.i64_in (S + z) (by omega)
            have HTS := Lib.hid hts
            have HSE := Lib.hid hSe
            clear hts hSe hze hTe hs1 hs0 hsl hall
            go_wp2_with fail
            go_step3
            exact ⟨rfl, hL, _, _, _, _, _, _, _, _, _, _, _, _, _, _, _, _, _, _, _, _, _, _, _, _, rfl, by rw [hA]; exact ⟨rfl, rfl⟩⟩
          · have e1 : decide (1125899906842624 < S + z) = false := decide_eq_false hov
            have hwr := IntWalk.i64_in (S + z) (by omega)
            have HTS := Lib.hid hts
            have HSE := Lib.hid hSe
            clear hts hSe hze hTe hs1 hs0 hsl hall
            go_wp2_with fail
            go_roundw
            case rel => exact ⟨k + 1, by omega, by rw [HTS.out], by go_num, (by first | rfl | trivial), by rw [HTS.out]; omega⟩
            case measure => simp [intOf]; omega
        · obtain rfl : k = n := by omega
          have hd : decide ((k : Int) < (k : Int)) = false := decide_eq_false (by omega)
          have hd' : decide (k < k) = false := decide_eq_false (by omega)
          rw [List.take_of_length_le (by rw [HN.out]; exact Nat.le_refl _)] at hle ⊢
          have hA := amts_sum HA.out (by unfold maxAmt; omega)
          rw [hA] at HΦ
          clear hsl hall
          go_wp2_with fail
          exact HΦ.out _ _ ⟨rfl, hL⟩
  · rintro a' w' ⟨hLj, e, u0, u1, u2, u4, u5, u6, u7, u8, u9, u10, u11, u12, u13, u14, u15, u16, u17, u18, u19, u20, u21, u22, u23, rfl, he⟩
    go_wp2_with fail
    obtain ⟨he1, he2⟩ := he
    exact HΦ.out _ _ ⟨by rw [he1, he2]; rfl, hLj⟩
def lessS (a : Int) (zs : List Int) : Int × Int := if amts (a :: zs) then (if a < zs.sum then (0, 151) else (a - zs.sum, 0)) else (0, 2)
theorem less_false {a : Int} {zs : List Int} (h : amts (a :: zs) = false) : lessS a zs = (0, 2) := by simp [lessS, h]
theorem less_under {a : Int} {zs : List Int} (h : amts (a :: zs) = true) (h2 : a < zs.sum) : lessS a zs = (0, 151) := by simp [lessS, h, h2]
theorem less_left {a : Int} {zs : List Int} (h : amts (a :: zs) = true) (h2 : ¬ a < zs.sum) : lessS a zs = (a - zs.sum, 0) := by simp [lessS, h, h2]
set_option maxRecDepth 100000 in
theorem less_any (a : Int) (A : Option Addr) (n c : Nat) (zs : List Int) (w : World) (hn : zs.length = n) (hm : n ≤ 1000000) (hr : RdV w A (zs.map numV)) :
    Calls Tryz.prog 21 #[.int .i64 a, .slice A n c] w fun e w' => e = .returned (.tuple #[.int .i64 (lessS a zs).1, .int .i64 (lessS a zs).2]) ∧ Below w.heap.size w w' := by
  refine Calls.post fun Φ HΦ => ?_
  have hL0 := (Later.refl w).alloc (.cells #[.int .i64 a] 2)
  have hra := hr.later hL0
  have hown0 := own1Z a w w.heap.size (Nat.le_refl _)
  have HN := Lib.hid hn
  clear hn
  go_enter Tryz.func21, Tryz.ntmps21
  go_wp2_with fail
  refine wp_scope_jumps 0 (fun a' w' => Below w.heap.size w w' ∧ ∃ (e : Int) (u0 u1 u2 u3 u4 u6 u7 u8 u9 u10 u11 u12 u13 u14 u15 u16 u17 u18 u19 u20 u21 u22 u23 u24 u25 u26 u27 u28 u29 : Value), a' = { tmps := #[u0, u1, u2, u3, u4, .int .i64 e, u6, u7, u8, u9, u10, u11, u12, u13, u14, u15, u16, u17, u18, u19, u20, u21, u22, u23, u24, u25, u26, u27, u28, u29], defers := [] } ∧ e = (lessS a zs).2 ∧ (lessS a zs).1 = 0) (fun _ _ => 0) rfl ?_ ?_
  · cases ha : amts (a :: zs) with
    | false =>
      have hS := less_false ha
      go_wp2_with (first
        | (refine wpList_buildSl rfl 33 1 _ rfl #[(0, .int .i64 a)] rfl (build1Z a _) ?_)
        | (at_builtin; refine wpList_append_ints rfl (.tmp 10) (.tmp 11) rfl w.heap.size _ [a] rfl hown0 A n c zs rfl HN.out hra (by simp; omega) (by simp only [World.size_alloc]; omega) ?_; intro v3 w3 hown3 hg3 hat3; obtain ⟨A3, c3, rfl, h31, h32, hrd3⟩ := hown3.slice; have hck := check_any A3 _ c3 _ w3 rfl (by simp; rw [HN.out]; omega) hrd3; rw [show [a] ++ zs = a :: zs from rfl, ha] at hck; have hL3 : Later w w3 := hL0.grown hg3 hL0.size (fun j e => (hown0.at_ j e).1))
        | (go_at_call 24; refine hck.mono ?_; clear hck; rintro e w1 ⟨rfl, hL1⟩)
        | fail)
      go_step3
      exact ⟨rfl, (hL3.step hL1), _, _, _, _, _, _, _, _, _, _, _, _, _, _, _, _, _, _, _, _, _, _, _, _, _, _, _, _, _, _, rfl, by rw [hS]; exact ⟨rfl, rfl⟩⟩
    | true =>
      have hall := amts_mem ha
      have hz0 := fun z (hz : z ∈ zs) => hall z (List.mem_cons_of_mem _ hz)
      have haa := hall a (List.mem_cons_self ..)
      have hsl := fun k => take_sum_le (zs := zs) (fun z hz => (hz0 z hz).1) k
      unfold maxAmt at haa
      have HA := Lib.hid ha
      clear hall
      go_wp2_with (first
        | (refine wpList_buildSl rfl 33 1 _ rfl #[(0, .int .i64 a)] rfl (build1Z a _) ?_)
        | (at_builtin; refine wpList_append_ints rfl (.tmp 10) (.tmp 11) rfl w.heap.size _ [a] rfl hown0 A n c zs rfl HN.out hra (by simp; omega) (by simp only [World.size_alloc]; omega) ?_; intro v3 w3 hown3 hg3 hat3; obtain ⟨A3, c3, rfl, h31, h32, hrd3⟩ := hown3.slice; have hck := check_any A3 _ c3 _ w3 rfl (by simp; rw [HN.out]; omega) hrd3; rw [show [a] ++ zs = a :: zs from rfl, HA.out] at hck; clear ha; have hL3 : Later w w3 := hL0.grown hg3 hL0.size (fun j e => (hown0.at_ j e).1))
        | (go_at_call 24; refine hck.mono ?_; clear hck; rintro e w1 ⟨rfl, hL1⟩)
        | fail)
      have hrw := hr.later (hL3.step hL1)
      have hLw := hL3.step hL1
      clear hL3 hL1 hra hown0 hown3 hg3 hat3 hrd3 hL0
      go_loopw [4, 18] (fun t u wr => ∃ k : Nat, k ≤ n ∧ t = .int .i64 (a - (zs.take k).sum) ∧ u = .int .i64 k ∧ w1 = wr ∧ 0 ≤ a - (zs.take k).sum) (fun _ u _ => n - (intOf u).toNat)
      case atStart => exact ⟨0, by omega, by simp, rfl, rfl, by simp; omega⟩
      case round =>
        obtain ⟨k, hk, rfl, rfl, rfl, hle⟩ := hrel
        by_cases hlt : k < n
        · have hd : decide ((k : Int) < (n : Int)) = true := decide_eq_true (by omega)
          have hd' : decide (k < n) = true := decide_eq_true hlt
          have hkl : k < zs.length := by rw [HN.out]; exact hlt
          obtain ⟨b, o, rfl, hc⟩ := hrw.at_ (k := k) (by simpa using hkl)
          rw [List.getElem_map] at hc
          have hz := hz0 zs[k] (List.getElem_mem hkl)
          have hts := take_sum hkl
          have hs1 := hsl (k + 1)
          have hs0 := hsl k
          obtain ⟨z, hze⟩ : ∃ z, zs[k] = z := ⟨_, rfl⟩
          obtain ⟨S, hSe⟩ : ∃ S, (zs.take k).sum = S := ⟨_, rfl⟩
          obtain ⟨T, hTe⟩ : ∃ T, zs.sum = T := ⟨_, rfl⟩
          rw [hze] at hc hz hts
          rw [hSe] at hts hs0 hle ⊢
          unfold maxAmt at hz
          have hwr := IntWalk.i64_in (a - S - z) (by omega)
          by_cases hov : a - S - z < 0
          · have e1 : decide (a - S - z < 0) = true := decide_eq_true hov
            have hA := less_under HA.out (by omega)
            have HTS := Lib.hid hts
            have HSE := Lib.hid hSe
            clear hts hSe hze hTe hs1 hs0 hsl hz0
            go_wp2_with fail
            go_step3
            exact ⟨rfl, hLw, _, _, _, _, _, _, _, _, _, _, _, _, _, _, _, _, _, _, _, _, _, _, _, _, _, _, _, _, _, _, rfl, by rw [hA]; exact ⟨rfl, rfl⟩⟩
          · have e1 : decide (a - S - z < 0) = false := decide_eq_false hov
            have HTS := Lib.hid hts
            have HSE := Lib.hid hSe
            clear hts hSe hze hTe hs1 hs0 hsl hz0
            go_wp2_with fail
            go_roundw
            case rel => exact ⟨k + 1, by omega, by rw [HTS.out]; congr 1; omega, by go_num, (by first | rfl | trivial), by rw [HTS.out]; omega⟩
            case measure => simp [intOf]; omega
        · obtain rfl : k = n := by omega
          have hd : decide ((k : Int) < (k : Int)) = false := decide_eq_false (by omega)
          have hd' : decide (k < k) = false := decide_eq_false (by omega)
          rw [List.take_of_length_le (by rw [HN.out]; exact Nat.le_refl _)] at hle ⊢
          have hA := less_left HA.out (by omega)
          rw [hA] at HΦ
          clear hsl hz0
          go_wp2_with fail
          exact HΦ.out _ _ ⟨rfl, hLw⟩
  · rintro a' w' ⟨hLj, e, u0, u1, u2, u3, u4, u6, u7, u8, u9, u10, u11, u12, u13, u14, u15, u16, u17, u18, u19, u20, u21, u22, u23, u24, u25, u26, u27, u28, u29, rfl, he⟩
    go_wp2_with fail
    obtain ⟨he1, he2⟩ := he
    exact HΦ.out _ _ ⟨by rw [he1, he2]; rfl, hLj⟩
set_option maxRecDepth 100000 in
theorem all5_any (A : Option Addr) (n c : Nat) (zs : List Int) (w : World) (hn : zs.length = n) (hm : n ≤ 9223372036854775807) (hr : RdV w A (zs.map numV)) :
    Calls Tryz.prog 30 #[.slice A n c] w fun e w' => e = .returned (.bool (amts zs)) ∧ w = w' := by
  refine Calls.post fun Φ HΦ => ?_
  have HN := Lib.hid hn
  clear hn
  go_enter Tryz.func30, Tryz.ntmps30
  go_wp2_with fail
  go_loopw [3] (fun t wr => ∃ k : Nat, k ≤ n ∧ t = .int .i64 k ∧ w = wr ∧ (zs.take k).any (bad maxAmt) = false) (fun t _ => n - (intOf t).toNat)
  case atStart => exact ⟨0, by omega, rfl, rfl, by simp⟩
  case round =>
    obtain ⟨k, hk, rfl, rfl, hany⟩ := hrel
    by_cases hlt : k < n
    · have hd : decide ((k : Int) < (n : Int)) = true := decide_eq_true (by omega)
      have hd' : decide (k < n) = true := decide_eq_true hlt
      have hkl : k < zs.length := by rw [HN.out]; exact hlt
      obtain ⟨b, o, rfl, hc⟩ := hr.at_ (k := k) (by simpa using hkl)
      rw [List.getElem_map] at hc
      obtain ⟨z, hz⟩ : ∃ z, zs[k] = z := ⟨_, rfl⟩
      have htk := take_any (p := bad maxAmt) hkl
      rw [hany, hz, Bool.false_or] at htk
      rw [hz] at hc
      cases hb : bad maxAmt z with
      | true =>
        rw [hb] at htk
        have hyes : amts zs = false := by unfold amts; rw [any_take htk]; rfl
        clear hany htk hz
        go_wp2_with (first
          | (go_at_call 18; refine (right5_any z w).mono ?_; rintro e w' ⟨rfl, rfl⟩; rw [hb])
          | fail)
        exact HΦ.out _ _ ⟨by rw [hyes]; rfl, rfl⟩
      | false =>
        rw [hb] at htk
        clear hany hz
        go_wp2_with (first
          | (go_at_call 18; refine (right5_any z w).mono ?_; rintro e w' ⟨rfl, rfl⟩; rw [hb])
          | fail)
        go_roundw
        case rel => exact ⟨k + 1, by omega, by go_num, (by first | rfl | trivial), htk⟩
        case measure => simp [intOf]; omega
    · obtain rfl : k = n := by omega
      have hd : decide ((k : Int) < (k : Int)) = false := decide_eq_false (by omega)
      have hd' : decide (k < k) = false := decide_eq_false (by omega)
      rw [List.take_of_length_le (by rw [HN.out]; exact Nat.le_refl _)] at hany
      have hyes : amts zs = true := by unfold amts; rw [hany]; rfl
      go_wp2_with fail
      exact HΦ.out _ _ ⟨by rw [hyes]; rfl, rfl⟩
set_option maxRecDepth 100000 in
theorem refAdd_any (A : Option Addr) (n c : Nat) (zs : List Int) (w : World) (hn : zs.length = n) (hm : n ≤ 9223372036854775807) (hr : RdV w A (zs.map numV)) :
    Calls Tryz.prog 20 #[.slice A n c] w fun e w' => e = .returned (.tuple #[.int .i64 (addS zs).1, .int .i64 (addS zs).2]) ∧ w = w' := by
  refine Calls.post fun Φ HΦ => ?_
  have hall5 := all5_any A n c zs w hn hm hr
  have HN := Lib.hid hn
  clear hn
  go_enter Tryz.func20, Tryz.ntmps20
  cases ha : amts zs with
  | false =>
    rw [ha] at hall5
    rw [amts_false ha] at HΦ
    go_wp2_with (first
      | (go_at_call 30; refine hall5.mono ?_; clear hall5; rintro e w1 ⟨rfl, rfl⟩)
      | fail)
    exact HΦ.out _ _ ⟨rfl, rfl⟩
  | true =>
    rw [ha] at hall5
    have hall := amts_mem ha
    have hsl := fun k => take_sum_le (zs := zs) (fun z hz => (hall z hz).1) k
    have HA := Lib.hid ha
    clear ha
    go_wp2_with (first
      | (go_at_call 30; refine hall5.mono ?_; clear hall5; rintro e w1 ⟨rfl, rfl⟩)
      | fail)
    go_loopw [4, 5] (fun t u wr => ∃ k : Nat, k ≤ n ∧ t = .int .i64 (zs.take k).sum ∧ u = .int .i64 k ∧ w = wr ∧ (zs.take k).sum ≤ 1125899906842624) (fun _ u _ => n - (intOf u).toNat)
    case atStart => exact ⟨0, by omega, by simp, rfl, rfl, by simp⟩
    case round =>
      obtain ⟨k, hk, rfl, rfl, rfl, hle⟩ := hrel
      by_cases hlt : k < n
      · have hd : decide ((k : Int) < (n : Int)) = true := decide_eq_true (by omega)
        have hd' : decide (k < n) = true := decide_eq_true hlt
        have hkl : k < zs.length := by rw [HN.out]; exact hlt
        obtain ⟨b, o, rfl, hc⟩ := hr.at_ (k := k) (by simpa using hkl)
        rw [List.getElem_map] at hc
        have hz := hall zs[k] (List.getElem_mem hkl)
        have hts := take_sum hkl
        have hs1 := hsl (k + 1)
        have hs0 := hsl k
        obtain ⟨z, hze⟩ : ∃ z, zs[k] = z := ⟨_, rfl⟩
        obtain ⟨S, hSe⟩ : ∃ S, (zs.take k).sum = S := ⟨_, rfl⟩
        obtain ⟨T, hTe⟩ : ∃ T, zs.sum = T := ⟨_, rfl⟩
        rw [hze] at hc hz hts
        rw [hSe] at hts hs0 hle ⊢
        unfold maxAmt at hz
        have hwr := IntWalk.i64_in (S + z) (by omega)
        by_cases hov : 1125899906842624 < S + z
        · have e1 : decide (1125899906842624 < S + z) = true := decide_eq_true hov
          have hA := amts_over HA.out (by unfold maxAmt; omega)
          rw [hA] at HΦ
          clear hts hSe hze hTe hs1 hs0 hsl hall
          go_wp2_with fail
          exact HΦ.out _ _ ⟨rfl, rfl⟩
        · have e1 : decide (1125899906842624 < S + z) = false := decide_eq_false hov
          have HTS := Lib.hid hts
          clear hts hSe hze hTe hs1 hs0 hsl hall
          go_wp2_with fail
          go_roundw
          case rel => exact ⟨k + 1, by omega, by rw [HTS.out], by go_num, (by first | rfl | trivial), by rw [HTS.out]; omega⟩
          case measure => simp [intOf]; omega
      · obtain rfl : k = n := by omega
        have hd : decide ((k : Int) < (k : Int)) = false := decide_eq_false (by omega)
        have hd' : decide (k < k) = false := decide_eq_false (by omega)
        rw [List.take_of_length_le (by rw [HN.out]; exact Nat.le_refl _)] at hle ⊢
        have hA := amts_sum HA.out (by unfold maxAmt; omega)
        rw [hA] at HΦ
        clear hsl hall
        go_wp2_with fail
        exact HΦ.out _ _ ⟨rfl, rfl⟩
theorem amts_cons (a : Int) (zs : List Int) : amts (a :: zs) = (!bad maxAmt a && amts zs) := by
  unfold amts
  rw [List.any_cons]
  cases bad maxAmt a <;> rfl
end Go.Proofs.YtcfhhljjknmniaaGreatDoor
namespace Go.Proofs.YtcfhhljjknmniaaGreatDoor
open Go.RowKit
theorem and_xor : ∀ (n x y : Nat), x ≤ n → 2 * (x &&& y) + (x ^^^ y) = x + y
  | 0, x, y, h => by
    obtain rfl : x = 0 := by omega
    simp
  | n + 1, x, y, h => by
    rcases Nat.eq_zero_or_pos x with rfl | hp
    · simp
    · have ih := and_xor n (x / 2) (y / 2) (by omega)
      have a1 : (x &&& y) / 2 = x / 2 &&& y / 2 := by simpa using Nat.and_div_two_pow (a := x) (b := y) (n := 1)
      have a2 : (x ^^^ y) / 2 = x / 2 ^^^ y / 2 := by simpa using Nat.xor_div_two_pow (a := x) (b := y) (n := 1)
      have b1 : (x &&& y) % 2 = x % 2 &&& y % 2 := by simpa using Nat.and_mod_two_pow (a := x) (b := y) (n := 1)
      have b2 : (x ^^^ y) % 2 = x % 2 ^^^ y % 2 := by simpa using Nat.xor_mod_two_pow (a := x) (b := y) (n := 1)
      rw [← a1, ← a2] at ih
      clear a1 a2
      generalize x &&& y = p at *
      generalize x ^^^ y = q at *
      have c00 : (0 : Nat) &&& 0 = 0 := rfl
      have c01 : (0 : Nat) &&& 1 = 0 := rfl
      have c10 : (1 : Nat) &&& 0 = 0 := rfl
      have c11 : (1 : Nat) &&& 1 = 1 := rfl
      have d00 : (0 : Nat) ^^^ 0 = 0 := rfl
      have d01 : (0 : Nat) ^^^ 1 = 1 := rfl
      have d10 : (1 : Nat) ^^^ 0 = 1 := rfl
      have d11 : (1 : Nat) ^^^ 1 = 0 := rfl
      rcases Nat.mod_two_eq_zero_or_one x with hx | hx <;> rcases Nat.mod_two_eq_zero_or_one y with hy | hy
      · rw [hx, hy, c00] at b1; rw [hx, hy, d00] at b2; omega
      · rw [hx, hy, c01] at b1; rw [hx, hy, d01] at b2; omega
      · rw [hx, hy, c10] at b1; rw [hx, hy, d10] at b2; omega
      · rw [hx, hy, c11] at b1; rw [hx, hy, d11] at b2; omega
theorem i64_and_nat (a b : Nat) (ha : a < 9223372036854775808) (hb : b < 9223372036854775808) : bits .and .i64 (a : Int) (b : Int) = ((a &&& b : Nat) : Int) := by
  have hx : a &&& b < 2 ^ 63 := Nat.and_lt_two_pow _ (by omega)
  show IntKind.i64.wrap ((BitVec.ofInt 64 (a : Int) &&& BitVec.ofInt 64 (b : Int)).toNat : Int) = _
  rw [BitVec.toNat_and, ofInt_u64 a (by omega), ofInt_u64 b (by omega)]
  exact IntWalk.i64_in _ (by omega)
theorem i64_xor_nat (a b : Nat) (ha : a < 9223372036854775808) (hb : b < 9223372036854775808) : bits .xor .i64 (a : Int) (b : Int) = ((a ^^^ b : Nat) : Int) := by
  have hx : a ^^^ b < 2 ^ 63 := Nat.xor_lt_two_pow (by omega) (by omega)
  show IntKind.i64.wrap ((BitVec.ofInt 64 (a : Int) ^^^ BitVec.ofInt 64 (b : Int)).toNat : Int) = _
  rw [BitVec.toNat_xor, ofInt_u64 a (by omega), ofInt_u64 b (by omega)]
  exact IntWalk.i64_in _ (by omega)
def midS (a b : Int) : Int × Int := if amts [a, b] then ((a + b) / 2, 0) else (0, 2)
theorem mid_bits {a b : Int} (h : amts [a, b] = true) : bits .and .i64 a b + bits .xor .i64 a b / 2 = (a + b) / 2 ∧ 0 ≤ bits .and .i64 a b ∧ 0 ≤ bits .xor .i64 a b ∧ bits .xor .i64 a b < 9223372036854775808 := by
  have ha := amts_mem h a (by simp)
  have hb := amts_mem h b (by simp)
  unfold maxAmt at ha hb
  obtain ⟨x, rfl⟩ := Int.eq_ofNat_of_zero_le ha.1
  obtain ⟨y, rfl⟩ := Int.eq_ofNat_of_zero_le hb.1
  have h1 := i64_and_nat x y (by omega) (by omega)
  have h2 := i64_xor_nat x y (by omega) (by omega)
  have h3 := and_xor x x y (Nat.le_refl _)
  have h4 : x ^^^ y < 2 ^ 63 := Nat.xor_lt_two_pow (by omega) (by omega)
  show bits .and .i64 (x : Int) (y : Int) + bits .xor .i64 (x : Int) (y : Int) / 2 = ((x : Int) + (y : Int)) / 2 ∧ _
  rw [h1, h2]
  omega
end Go.Proofs.YtcfhhljjknmniaaGreatDoor
namespace Go.Proofs.YtcfhhljjknmniaaGreatDoor
open Go.RowKit
set_option maxRecDepth 100000 in
theorem len64_million (w : World) : Calls Tryz.prog 75 #[.int .u64 1000000] w fun e w' => e = .returned (.int .i64 20) ∧ w = w' := by
  go_enter Tryz.func75, Tryz.ntmps75
  go_wp2
  go_ret
  exact ⟨by kernel_rfl, rfl⟩
theorem lead64_million (w : World) : Calls Tryz.prog 57 #[.int .u64 1000000] w fun e w' => e = .returned (.int .i64 44) ∧ w = w' := by
  have hl := len64_million w
  go_enter Tryz.func57, Tryz.ntmps57
  go_wp2_with (first
    | (go_at_call 75; refine hl.mono ?_; clear hl; rintro e w' ⟨rfl, rfl⟩)
    | fail)
  go_ret
  exact ⟨rfl, rfl⟩
theorem div_f1 (hi lo : Nat) (h1 : 0 < hi) (h2 : hi < 64) (h3 : lo < 18446744073709551616) : bits .or .u64 ((hi : Int) * 17592186044416) ((lo : Int) / 1048576) = ((hi * 17592186044416 + lo / 1048576 : Nat) : Int) := by
  have h := u64_or_nat (hi * 17592186044416) (lo / 1048576) (by omega) (by omega)
  rw [nat_join 44 (hi * 17592186044416) (lo / 1048576) (by omega) (by omega)] at h
  rw [← h]
  congr 1
theorem div_f2 (lo : Nat) (h3 : lo < 18446744073709551616) : IntKind.u64.wrap ((lo : Int) * 17592186044416) = ((lo % 1048576 * 17592186044416 : Nat) : Int) := by
  rw [IntKind.wrap_u64]
  omega
theorem div_f4 (lo : Nat) (h3 : lo < 18446744073709551616) : bits .and .u64 ((lo % 1048576 * 17592186044416 : Nat) : Int) 4294967295 = 0 := by
  have h := u64_and_nat (lo % 1048576 * 17592186044416) 4294967295 (by omega) (by omega)
  rw [show (4294967295 : Int) = ((4294967295 : Nat) : Int) from rfl, h]
  rw [show 4294967295 = 2 ^ 32 - 1 from rfl, Nat.and_two_pow_sub_one_eq_mod]
  omega
theorem div_g3 (U V q1 r1 : Nat) (hV : V < 4294967296) (hU : U = q1 * 4096000000 + r1) (hr : r1 < 4096000000) : IntKind.u64.wrap (IntKind.u64.wrap (IntKind.u64.wrap ((U : Int) * 4294967296) + (V : Int)) - IntKind.u64.wrap ((q1 : Int) * 17592186044416000000)) = ((r1 * 4294967296 + V : Nat) : Int) := by
  have hUZ : (U : Int) = q1 * 4096000000 + r1 := by omega
  have ha := Int.emod_def ((U : Int) * 4294967296) 18446744073709551616
  have hb := Int.emod_def ((q1 : Int) * 17592186044416000000) 18446744073709551616
  have hc := Int.emod_def ((U : Int) * 4294967296 % 18446744073709551616 + V) 18446744073709551616
  rw [IntKind.wrap_u64, IntKind.wrap_u64, IntKind.wrap_u64, IntKind.wrap_u64, hc, ha, hb, hUZ]
  generalize ((q1 * 4096000000 + r1 : Int) * 4294967296) / 18446744073709551616 = a
  generalize ((q1 : Int) * 17592186044416000000) / 18446744073709551616 = b
  generalize ((q1 * 4096000000 + r1 : Int) * 4294967296 - 18446744073709551616 * a + V) / 18446744073709551616 = c
  clear hUZ hU ha hb hc
  have : ((q1 * 4096000000 + r1 : Int) * 4294967296 - 18446744073709551616 * a + V - 18446744073709551616 * c - (q1 * 17592186044416000000 - 18446744073709551616 * b)) = ((r1 * 4294967296 + V : Nat) : Int) + 18446744073709551616 * (b - a - c) := by omega
  rw [this, Int.add_mul_emod_self_left]
  omega
structure Div64F (hi lo U T V q1 r1 X q0 r0 : Nat) : Prop where
  hU : hi * 17592186044416 + lo / 1048576 = U
  hT : lo % 1048576 * 17592186044416 = T
  hV : lo % 1048576 * 4096 = V
  hUq : U = q1 * 4096000000 + r1
  hr1 : r1 < 4096000000
  hX : r1 * 4294967296 + V = X
  hXq : X = q0 * 4096000000 + r0
  hr0 : r0 < 4096000000
  hUb : U < 1125899906842624
  hVb : V < 4294967296
  hq1 : q1 < 4294967296
  hq0 : q0 < 4294967296
theorem div_exists (hi lo : Nat) (h1 : 0 < hi) (h2 : hi < 64) (h3 : lo < 18446744073709551616) : ∃ U T V q1 r1 X q0 r0, Div64F hi lo U T V q1 r1 X q0 r0 := by
  refine ⟨_, _, _, (hi * 17592186044416 + lo / 1048576) / 4096000000, (hi * 17592186044416 + lo / 1048576) % 4096000000, _, ((hi * 17592186044416 + lo / 1048576) % 4096000000 * 4294967296 + lo % 1048576 * 4096) / 4096000000, ((hi * 17592186044416 + lo / 1048576) % 4096000000 * 4294967296 + lo % 1048576 * 4096) % 4096000000, rfl, rfl, rfl, ?_, ?_, rfl, ?_, ?_, ?_, ?_, ?_, ?_⟩ <;> omega
set_option maxRecDepth 100000 in
theorem div_q {hi lo U T V q1 r1 X q0 r0 : Nat} (h : Div64F hi lo U T V q1 r1 X q0 r0) : (hi * 18446744073709551616 + lo) / 1000000 = q1 * 4294967296 + q0 := by
  obtain ⟨a, b, c, d, e, f, g, i, j, k, l, m⟩ := h
  have : (hi * 18446744073709551616 + lo) * 4096 = (q1 * 4294967296 + q0) * 4096000000 + r0 := by omega
  omega
set_option maxRecDepth 100000 in
theorem div64_any (hi lo : Nat) (w : World) (h1 : 0 < hi) (h2 : hi < 64) (h3 : lo < 18446744073709551616) :
    Calls Tryz.prog 41 #[.int .u64 (hi : Int), .int .u64 (lo : Int), .int .u64 1000000] w fun e w' => (∃ r, e = .returned (.tuple #[.int .u64 (((hi * 18446744073709551616 + lo) / 1000000 : Nat) : Int), r])) ∧ w = w' := by
  refine Calls.post fun Φ HΦ => ?_
  obtain ⟨U, T, V, q1, r1, X, q0, r0, hF⟩ := div_exists hi lo h1 h2 h3
  rw [div_q hF] at HΦ
  have e1 : decide ((1000000 : Int) ≤ (hi : Int)) = false := decide_eq_false (by omega)
  have e2 : decide ((hi : Int) = 0) = false := decide_eq_false (by omega)
  have f0 : bits .and .u64 17592186044416000000 4294967295 = 0 := by kernel_rfl
  have f1 := div_f1 hi lo h1 h2 h3
  have f2 := div_f2 lo h3
  have f4 := div_f4 lo h3
  rw [hF.hU] at f1
  rw [hF.hT] at f2 f4
  have f3 : (T : Int) / 4294967296 = (V : Int) := by have := hF.hT; have := hF.hV; omega
  have g1 : (U : Int) / 4096000000 = (q1 : Int) := by have := hF.hUq; have := hF.hr1; omega
  have g2 : (U : Int) - (q1 : Int) * 4096000000 = (r1 : Int) := by have := hF.hUq; omega
  have g3 := div_g3 U V q1 r1 hF.hVb hF.hUq hF.hr1
  rw [hF.hX] at g3
  have g4 : (X : Int) / 4096000000 = (q0 : Int) := by have := hF.hXq; have := hF.hr0; omega
  have g5 : (X : Int) - (q0 : Int) * 4096000000 = (r0 : Int) := by have := hF.hXq; omega
  have hq1b := hF.hq1
  have hq0b := hF.hq0
  have hr1b := hF.hr1
  have hr0b := hF.hr0
  have hUb := hF.hUb
  have hVb := hF.hVb
  have d1 : decide (4294967296 ≤ (q1 : Int)) = false := decide_eq_false (by omega)
  have d2 : decide (4294967296 * (r1 : Int) + (V : Int) < 0) = false := decide_eq_false (by omega)
  have d3 : decide (4294967296 ≤ (q0 : Int)) = false := decide_eq_false (by omega)
  have d4 : decide (4294967296 * (r0 : Int) < 0) = false := decide_eq_false (by omega)
  have hXb : X < 18446744073709551616 := by have := hF.hX; omega
  have HF := Lib.hid hF
  clear hF
  go_enter Tryz.func41, Tryz.ntmps41
  go_wp2_with (first
    | (go_at_call 57; refine (lead64_million w).mono ?_; rintro e w' ⟨rfl, rfl⟩)
    | fail)
  go_loopw [15, 16] (fun t u wr => t = .int .u64 (q1 : Int) ∧ u = .int .u64 (r1 : Int) ∧ w = wr) (fun _ _ _ => 0)
  case atStart => exact ⟨rfl, rfl, rfl⟩
  case round =>
    obtain ⟨rfl, rfl, rfl⟩ := hrel
    go_wp2_with fail
    go_loopw [18, 16] (fun t u wr => t = .int .u64 (q0 : Int) ∧ u = .int .u64 (r0 : Int) ∧ w = wr) (fun _ _ _ => 0)
    case atStart => exact ⟨rfl, rfl, rfl⟩
    case round =>
      obtain ⟨rfl, rfl, rfl⟩ := hrel
      go_wp2_with fail
      exact HΦ.out _ _ ⟨⟨_, rfl⟩, rfl⟩
set_option maxRecDepth 100000 in
theorem div64_small (lo : Nat) (w : World) (h3 : lo < 18446744073709551616) :
    Calls Tryz.prog 41 #[.int .u64 0, .int .u64 (lo : Int), .int .u64 1000000] w fun e w' => (∃ r, e = .returned (.tuple #[.int .u64 ((lo / 1000000 : Nat) : Int), r])) ∧ Later w w' := by
  refine Calls.post fun Φ HΦ => ?_
  go_enter Tryz.func41, Tryz.ntmps41
  go_wp2_with fail
  go_region
  go_wp2
  exact HΦ.out _ _ ⟨⟨_, rfl⟩, (Later.refl w).drew⟩
theorem div64_all (hi lo : Nat) (w : World) (h2 : hi < 64) (h3 : lo < 18446744073709551616) :
    Calls Tryz.prog 41 #[.int .u64 (hi : Int), .int .u64 (lo : Int), .int .u64 1000000] w fun e w' => (∃ r, e = .returned (.tuple #[.int .u64 (((hi * 18446744073709551616 + lo) / 1000000 : Nat) : Int), r])) ∧ Later w w' := by
  rcases Nat.eq_zero_or_pos hi with rfl | h1
  · have := div64_small lo w h3
    rw [Nat.zero_mul, Nat.zero_add]
    exact this
  · exact (div64_any hi lo w h1 h2 h3).mono fun e w' ⟨he, hw⟩ => ⟨he, hw ▸ Later.refl w⟩
end Go.Proofs.YtcfhhljjknmniaaGreatDoor
