/- Walks: the reader's small parts: must, none, bound, take. -/
import Derived.Test.YtmipaacobioakaaWb2
import Derived.Recover
import Derived.Defers
import Derived.Deep.Cut
import Derived.Deep.DeepCutAuto
import Derived.Deep.QuietTactic
import Derived.Laws.EntriesVeiled
import Derived.StillTailTactics
import Derived.Maps.OwnOps
set_option linter.unusedVariables false
set_option linter.unusedSimpArgs false
namespace Go.Proofs.Ytmipaacobioakaa
open Go.RowKit
/-- The blocks of which p holds are as they were; the streams too; no block has gone. -/
structure Same (p : Nat → Prop) (w w' : World) : Prop where
  os : w'.os = w.os
  tape : w'.tape = w.tape
  output : w'.output = w.output
  size : w.heap.size ≤ w'.heap.size
  block : ∀ k, p k → w'.heap[k]? = w.heap[k]?
theorem Same.refl (p : Nat → Prop) (w : World) : Same p w w := ⟨rfl, rfl, rfl, Nat.le_refl _, fun _ _ => rfl⟩
theorem Same.trans {p : Nat → Prop} {a b c : World} (h : Same p a b) (k : Same p b c) : Same p a c := ⟨k.os.trans h.os, k.tape.trans h.tape, k.output.trans h.output, Nat.le_trans h.size k.size, fun i hi => (k.block i hi).trans (h.block i hi)⟩
theorem Same.mono {p q : Nat → Prop} {a b : World} (h : Same p a b) (hq : ∀ k, q k → p k) : Same q a b := ⟨h.os, h.tape, h.output, h.size, fun k hk => h.block k (hq k hk)⟩
theorem Same.below {B : Nat} {a b : World} (h : Same (fun k => k < B) a b) : Below B a b := ⟨h.os, h.tape, h.output, h.size, h.block⟩
theorem Same.of_below {B : Nat} {a b : World} (h : Below B a b) : Same (fun k => k < B) a b := ⟨h.os, h.tape, h.output, h.size, h.block⟩
theorem Same.of_grown {row : Option Nat} {a b : World} (h : a.grownBy b row) : Same (fun k => k < a.heap.size ∧ some k ≠ row) a b := ⟨h.os, h.tape, h.output, h.size, fun k hk => h.block k hk.1 hk.2⟩
theorem Same.set (w : World) (p : Addr) (v : Value) : Same (fun k => k ≠ p.block) w (w.setCell p v) := ⟨rfl, rfl, rfl, by simp [World.setCell], fun k hk => Below.heap_setCell w p v k hk⟩
theorem Same.alloc (w : World) (o : Obj) : Same (fun k => k < w.heap.size) w (w.alloc o) := ⟨rfl, rfl, rfl, by simp, fun k hk => Below.heap_alloc w o k hk⟩
theorem Row.same {p : Nat → Prop} {w w' : World} {g : Nat} {t : TypeId} {cs : Array Value} (h : Row w g t cs) (hs : Same p w w') (hg : p g) : Row w' g t cs := (hs.block g hg).trans h
theorem Rd.same {p : Nat → Prop} {w w' : World} {A : Option Addr} {l : List UInt8} (h : Rd w A l) (hs : Same p w w') (hg : ∀ b o, A = some ⟨b, o, none⟩ → l ≠ [] → p b) : Rd w' A l := fun hl => by
  obtain ⟨b, o, e, hc⟩ := h hl
  exact ⟨b, o, e, fun i hi => (World.cell?_of_block (w := w) (a := ⟨b, o + i, none⟩) (hs.block b (hg b o e hl))).trans (hc i hi)⟩
def lacksP : List PanicEntry := [{ v := .iface 125 (.agg #[]), recovered := false }]
theorem must_any (b : Bool) (w : World) : Calls Try.prog 53 #[.bool b] w fun e w' => w' = w ∧ e = if b then .returned (.tuple #[]) else .panicked lacksP := by
  cases b
  · go_enter Try.func53, Try.ntmps53
    go_wp2
    exact ⟨rfl, rfl, rfl⟩
  · go_enter Try.func53, Try.ntmps53
    go_wp2
    go_end0
    exact ⟨rfl, rfl⟩
theorem bound_any (n : Int) (w : World) : Calls Try.prog 48 #[.int .i64 n] w fun e w' => w' = w ∧ e = .returned (.int .i64 (if n < 0 then 2 else 0)) := by
  by_cases h : n < 0
  · have hd : decide (n < 0) = true := decide_eq_true h
    go_enter Try.func48, Try.ntmps48
    go_wp2
    go_ret
    exact ⟨rfl, rfl⟩
  · have hd : decide (n < 0) = false := decide_eq_false h
    go_enter Try.func48, Try.ntmps48
    go_wp2
    go_ret
    exact ⟨rfl, rfl⟩
def rdC (A : Option Addr) (n c : Nat) (made bad : Bool) : Array Value := #[.slice A n c, .bool made, .bool bad]
theorem rnone_yes (g : Nat) (A : Option Addr) (n c : Nat) (made bad : Bool) (w : World) (hr : Row w g 47 (rdC A n c made bad)) : Calls Try.prog 46 #[.pointer (some ⟨g, 0, none⟩)] w fun e w' => w' = w ∧ e = .returned (.bool (!made)) := by
  have hc : w.cell? ⟨g, 1, none⟩ = some (.bool made) := (hr.cell 1).trans rfl
  have hd : decide (made = false) = !made := by cases made <;> rfl
  go_enter Try.func46, Try.ntmps46
  go_wp2
  go_ret
  exact ⟨rfl, rfl⟩
theorem rnone_nil (w : World) : Calls Try.prog 46 #[.pointer none] w fun e w' => w' = w ∧ e = .returned (.bool true) := by
  go_enter Try.func46, Try.ntmps46
  go_wp2
  go_ret
  exact ⟨rfl, rfl⟩
/-- The reader's block, with the bytes that are left. -/
theorem rdC_ne {w : World} {g : Nat} {A : Option Addr} {n c : Nat} {made bad : Bool} {b o : Nat} {l : List UInt8} (hr : Row w g 47 (rdC A n c made bad)) (hl : l ≠ []) (hd : Rd w (some ⟨b, o, none⟩) l) : b ≠ g := fun e => by
  subst e
  obtain ⟨b', o', e', hc⟩ := hd hl
  injection e' with e'
  injection e' with e1 e2
  subst e1 e2
  have h0 := hc 0 (List.length_pos_iff.2 hl)
  rw [hr.cell] at h0
  have : ∀ (i : Nat) (v : UInt8), (rdC A n c made bad)[i]? ≠ some (byteV v) := fun i v hi => by
    rcases i with _ | _ | _ | i <;> simp [rdC, byteV] at hi
  exact this _ _ h0
structure IsRd (w : World) (g : Nat) (l : List UInt8) (bad : Bool) : Prop where
  ex : ∃ A c, Row w g 47 (rdC A l.length c true bad) ∧ l.length ≤ c ∧ c ≤ 9223372036854775807 ∧ Rd w A l
set_option maxRecDepth 100000 in
theorem rtake_any (g : Nat) (A : Option Addr) (n c : Nat) (bad : Bool) (l : List UInt8) (k : Nat) (w : World) (hn : l.length = n) (hc : n ≤ c) (hcm : c ≤ 9223372036854775807) (hk : k ≤ 9223372036854775807) (hr : Row w g 47 (rdC A n c true bad)) (hd : Rd w A l) :
    Calls Try.prog 52 #[.pointer (some ⟨g, 0, none⟩), .int .i64 (k : Int)] w fun e w' => (k ≤ n ∧ e = .returned (.slice A k c) ∧ (∃ D, Row w' g 47 (rdC D (n - k) (c - k) true bad) ∧ ∀ W, Rd W A l → Rd W D (l.drop k)) ∧ w.grownBy w' (some g)) ∨ (n < k ∧ e = .panicked lacksP ∧ w' = w) := by
  have h0 : w.cell? ⟨g, 0, none⟩ = some (.slice A n c) := (hr.cell 0).trans rfl
  have hf : w.frozen? ⟨g, 0, none⟩ = false := hr.frozen 0
  by_cases h : k ≤ n
  · have hle : decide (k ≤ n) = true := decide_eq_true h
    have hle' : decide ((k : Int) ≤ (n : Int)) = true := decide_eq_true (by omega)
    have hs1 : ∀ w : World, (Instr.sliceAt 22 (.slice A n c) none (some (.int .i64 (k : Int))) none).run Try.prog w = .ok (.slice A k c) w := run_slice_upto (k := k) Try.underlying22 byteInfo (by omega)
    obtain ⟨D, hs2, hD⟩ := run_slice_from (P := Try.prog) (t := 22) (U := 5) (A := A) (n := n) (ca := c) (k := k) Try.underlying22 byteInfo h hc
    go_enter Try.func52, Try.ntmps52
    go_wp2_with (first
      | (go_at_call 53; refine (must_any _ _).mono ?_; rintro e w1 ⟨rfl, rfl⟩)
      | fail)
    go_ret
    have hg := grown_set w1 g 0 (.slice D (n - k) (c - k))
    exact .inl ⟨h, rfl, ⟨D, hr.set 0 _, fun W hW => hD W l hn hW⟩, hg⟩
  · have hle : decide (k ≤ n) = false := decide_eq_false h
    have hle' : decide ((k : Int) ≤ (n : Int)) = false := decide_eq_false (by omega)
    go_enter Try.func52, Try.ntmps52
    go_wp2_with (first
      | (go_at_call 53; refine (must_any _ _).mono ?_; rintro e w1 ⟨rfl, rfl⟩)
      | fail)
    exact ⟨rfl, .inr ⟨by omega, rfl, rfl⟩⟩
end Go.Proofs.Ytmipaacobioakaa
