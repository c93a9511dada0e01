/- What holds while a block is pressed: the state that turns, and what stays. -/
import Derived.Test.YtfconncnccgenaaShaW5
set_option linter.unusedVariables false
set_option linter.unusedSimpArgs false
namespace Go.Proofs.Ytfconncnccgenaa
open Go.RowKit Go.Shelf
theorem st_cell {W : World} {bx : Nat} {s : Sha.St} {t i j : Nat} (hrow : Row W bx 41 (stC s t)) (hi : i < 8) (ht : t < 64) (hj : ((i : Int) + 64 - (t : Int)) % 8 = (j : Int)) : W.cell? ⟨bx, j, none⟩ = some (.int .u32 ((s.get i).toNat : Int)) := by
  have hj8 : j < 8 := by omega
  rw [hrow.cell, stC_get s t j hj8, show (j + t) % 8 = i from by omega]
theorem st_next (s : Sha.St) (t j3 j7 : Nat) (ht : t < 64) (k w : BitVec 32) (h3 : ((3 : Int) + 64 - (t : Int)) % 8 = (j3 : Int)) (h7 : ((7 : Int) + 64 - (t : Int)) % 8 = (j7 : Int)) :
    ((stC s t).setIfInBounds j3 (wordV (Sha.rnd k w s).e)).setIfInBounds j7 (wordV (Sha.rnd k w s).a) = stC (Sha.rnd k w s) (t + 1) := by
  apply Array.ext_getElem?
  intro i
  rw [Array.getElem?_setIfInBounds, Array.getElem?_setIfInBounds]
  have hs : (stC s t).size = 8 := stC_size s t
  by_cases hi : i < 8
  · rw [stC_get (Sha.rnd k w s) (t + 1) i hi]
    by_cases e7 : j7 = i
    · subst e7
      rw [if_pos rfl, if_pos (by simp [hs]; omega), show (j7 + (t + 1)) % 8 = 0 from by omega]
      rfl
    · rw [if_neg e7]
      by_cases e3 : j3 = i
      · subst e3
        rw [if_pos rfl, if_pos (by omega), show (j3 + (t + 1)) % 8 = 4 from by omega]
        rfl
      · rw [if_neg e3, stC_get s t i hi]
        obtain ⟨v, hv⟩ : ∃ v, (i + t) % 8 = v := ⟨_, rfl⟩
        have hv8 : v < 8 := by omega
        have h0 : v ≠ 3 := by omega
        have h1 : v ≠ 7 := by omega
        rw [hv, show (i + (t + 1)) % 8 = v + 1 from by omega]
        have : ∀ v : Fin 8, v.val ≠ 3 → v.val ≠ 7 → s.get v.val = (Sha.rnd k w s).get (v.val + 1) := by
          intro v
          match v with
          | 0 => intro _ _; rfl
          | 1 => intro _ _; rfl
          | 2 => intro _ _; rfl
          | 3 => intro h _; exact absurd rfl h
          | 4 => intro _ _; rfl
          | 5 => intro _ _; rfl
          | 6 => intro _ _; rfl
          | 7 => intro _ h; exact absurd rfl h
        rw [this ⟨v, hv8⟩ h0 h1]
  · rw [if_neg (by omega), if_neg (by omega), Array.getElem?_eq_none (by omega), Array.getElem?_eq_none (by rw [stC_size]; omega)]
theorem later_grown {X Y : World} (h : Later X Y) (r : Nat) : X.grownBy Y (some r) := ⟨h.os, h.tape, h.output, h.size, fun k hk _ => h.block k hk⟩
/-- All that was stays, but for two blocks. -/
structure Held (bm bx : Nat) (w0 W : World) : Prop where
  os : W.os = w0.os
  tape : W.tape = w0.tape
  output : W.output = w0.output
  size : w0.heap.size ≤ W.heap.size
  block : ∀ k, k < w0.heap.size → k ≠ bm → k ≠ bx → W.heap[k]? = w0.heap[k]?
theorem Held.refl (bm bx : Nat) (w : World) : Held bm bx w w := ⟨rfl, rfl, rfl, Nat.le_refl _, fun _ _ _ _ => rfl⟩
theorem Held.grown {bm bx : Nat} {w0 X Y : World} {row : Option Nat} (h : Held bm bx w0 X) (hg : X.grownBy Y row) (hr : ∀ r, row = some r → r = bm ∨ r = bx ∨ w0.heap.size ≤ r) : Held bm bx w0 Y :=
  ⟨hg.os.trans h.os, hg.tape.trans h.tape, hg.output.trans h.output, Nat.le_trans h.size hg.size, fun k hk h1 h2 => (hg.block k (Nat.lt_of_lt_of_le hk h.size) (fun e => by
    rcases hr k e.symm with h3 | h3 | h3
    · exact h1 h3
    · exact h2 h3
    · omega)).trans (h.block k hk h1 h2)⟩
theorem Held.later {bm bx : Nat} {w0 X Y : World} (h : Held bm bx w0 X) (hL : Later X Y) : Held bm bx w0 Y := h.grown (grown_of_below hL) (fun r e => by cases e)
theorem Held.set {bm bx : Nat} {w0 X : World} (h : Held bm bx w0 X) (j : Nat) (v : Value) : Held bm bx w0 (X.setCell ⟨bx, j, none⟩ v) := h.grown (grown_set X bx j v) (fun r e => by cases e; exact .inr (.inl rfl))
theorem stab_held {β : Type} {bm bx : Nat} {w0 : World} : Stab w0.heap.size (fun r => r = bm) (fun (_ : β) W => Held bm bx w0 W) := fun _ X Y row hs hg hr => hs.grown hg (fun r e => by
  rcases hr r e with h | ⟨h, _⟩
  · exact .inl h
  · exact .inr (.inr h))
theorem Keeps.trans {S : Nat → Prop} {bm : Nat} {A B D : World} (h : Keeps S bm A B) (k : Keeps S bm B D) : Keeps S bm A D := ⟨fun i hi => (k.1 i hi).trans (h.1 i hi), k.2.trans h.2⟩
theorem idxK {b j : Nat} {W : World} (h : j < 64) : (Instr.indexAt 72 (.pointer (some ⟨b, 0, none⟩)) (.int .i64 (j : Int))).run Try.prog W = .ok (.pointer (some ⟨b, j, none⟩)) W := by
  have h1 : (j : Int) < 64 := by omega
  have h2 : (0 : Int) ≤ (j : Int) := by omega
  go_simp
theorem info39 : (Try.prog.info? 39).map (fun i => (i.zero, i.size, i.bytes)) = some (some (.int .u32 0), 1, 4) := by kernel_rfl
theorem idxAgg {cs : Array Value} {k : Nat} {v : Value} {W : World} (hk : k < 8) (h : cs[k]? = some v) : (Instr.index 41 (.agg cs) (.int .i64 (k : Int))).run Try.prog W = .ok v W := by
  have h1 : (k : Int) < 8 := by omega
  have h2 : (0 : Int) ≤ (k : Int) := by omega
  obtain ⟨i, hi0, hz, hs, hb⟩ := info_parts info39
  simp [Instr.index, run_underlying Try.underlying41, asIntOf, h1, h2, sizeOf, typeInfo, hi0, hs]
  rw [if_pos hk]
  have h' : cs[k]?.getD undef = v := by rw [h]; rfl
  simp [part, go_sem, sizeOf, typeInfo, hi0, hs, h, h']
theorem setFrom_snoc (vs : List Value) (v : Value) : ∀ (o : Nat) (cs : Array Value), setFrom cs o (vs ++ [v]) = (setFrom cs o vs).setIfInBounds (o + vs.length) v := by
  induction vs with
  | nil => intro o cs; rfl
  | cons x vs ih =>
    intro o cs
    rw [List.cons_append, setFrom, setFrom, ih, List.length_cons, show o + 1 + vs.length = o + (vs.length + 1) from by omega]
/-- Some words of a state have been laid. -/
def stTo (cs : Array Value) (o : Nat) (z : Sha.St) (k : Nat) : Array Value := setFrom cs o ((z.list.map wordV).take k)
theorem list_get (z : Sha.St) (k : Nat) (h : k < 8) : (z.list.map wordV)[k]? = some (wordV (z.get k)) := by
  have : ∀ k : Fin 8, (z.list.map wordV)[k.val]? = some (wordV (z.get k.val)) := by
    intro k
    match k with
    | 0 => rfl
    | 1 => rfl
    | 2 => rfl
    | 3 => rfl
    | 4 => rfl
    | 5 => rfl
    | 6 => rfl
    | 7 => rfl
  exact this ⟨k, h⟩
theorem stTo_succ (cs : Array Value) (o : Nat) (z : Sha.St) (k : Nat) (h : k < 8) : stTo cs o z (k + 1) = (stTo cs o z k).setIfInBounds (o + k) (wordV (z.get k)) := by
  have hl : (z.list.map wordV).length = 8 := rfl
  have hg := list_get z k h
  rw [List.getElem?_eq_getElem (by omega)] at hg
  unfold stTo
  rw [List.take_succ_eq_append_getElem (by omega), setFrom_snoc, List.length_take, Option.some.inj hg]
  congr 1
  omega
theorem stTo_get (cs : Array Value) (o : Nat) (z : Sha.St) (k i : Nat) (hk : k ≤ i) (hi : i < 8) (hs : o + 8 ≤ cs.size) : (stTo cs o z k)[o + i]? = cs[o + i]? := by
  unfold stTo
  rw [setFrom_get _ _ _ _ (by rw [List.length_take]; have : (z.list.map wordV).length = 8 := rfl; omega), if_neg]
  rw [List.length_take]; omega
theorem st_add_get (x y : Sha.St) (k : Nat) : (x.add y).get k = x.get k + y.get k := by
  match k with
  | 0 => rfl
  | 1 => rfl
  | 2 => rfl
  | 3 => rfl
  | 4 => rfl
  | 5 => rfl
  | 6 => rfl
  | _ + 7 => rfl
theorem st_eight (y : Sha.St) (i : Nat) (h : i < 8) : (stC y 64)[0 + i]? = some (wordV (y.get i)) := by
  rw [Nat.zero_add, stC_get y 64 i h, show (i + 64) % 8 = i from by omega]
theorem fieldP {b o : Nat} {W : World} : (Instr.fieldAt 70 (.pointer (some ⟨b, o, none⟩)) 0).run Try.prog W = .ok (.pointer (some ⟨b, o, none⟩)) W := by
  go_simp
theorem idxS {b o j : Nat} {W : World} (h : j < 8) : (Instr.indexAt 41 (.pointer (some ⟨b, o, none⟩)) (.int .i64 (j : Int))).run Try.prog W = .ok (.pointer (some ⟨b, o + j, none⟩)) W := by
  have h1 : (j : Int) < 8 := by omega
  have h2 : (0 : Int) ≤ (j : Int) := by omega
  go_simp
end Go.Proofs.Ytfconncnccgenaa
