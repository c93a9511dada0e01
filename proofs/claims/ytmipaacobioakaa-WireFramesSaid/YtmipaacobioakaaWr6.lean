/- Walks: the reader takes a number. -/
import Derived.Test.YtmipaacobioakaaWr5
set_option linter.unusedVariables false
set_option linter.unusedSimpArgs false
namespace Go.Proofs.Ytmipaacobioakaa
open Go.RowKit
theorem Wr.many_le (x : UInt8) : Wr.many x ≤ 8 := by unfold Wr.many; split; simp; split; simp; split <;> simp
theorem Wr.first_le (l : List UInt8) : (Wr.first l).2 ≤ l.length ∧ -1 ≤ (Wr.first l).2 ∧ (Wr.first l).1 ≤ 4611686018427387904 := by
  rcases l with _ | ⟨x, r⟩
  · simp [Wr.first]
  · have hx := x.toNat_lt
    simp only [Wr.first]
    split
    · simp; omega
    · split
      · simp; omega
      · next h1 h2 =>
        split
        · simp; omega
        · next h3 =>
          have := not_or.1 h3
          simp at h2
          simp only [List.length_cons]
          omega
theorem grown_weak {X Y : World} (h : Below X.heap.size X Y) (r : Nat) : X.grownBy Y (some r) := ⟨h.os, h.tape, h.output, h.size, fun k hk _ => h.block k hk⟩
/-- A number may be taken: there is one, and it is not above the bound. -/
def Wr.may (l : List UInt8) (most : Int) : Prop := 0 < (Wr.first l).2 ∧ ((Wr.first l).1 : Int) ≤ most
instance (l : List UInt8) (most : Int) : Decidable (Wr.may l most) := by unfold Wr.may; infer_instance
set_option maxRecDepth 100000 in
set_option maxHeartbeats 1000000 in
theorem rnumber_any (g : Nat) (A : Option Addr) (n c : Nat) (l : List UInt8) (most : Int) (w : World) (hn : l.length = n) (hc : n ≤ c) (hcm : c ≤ 9223372036854775807) (hr : Row w g 47 (rdC A n c true false)) (hd : Rd w A l) :
    Calls Try.prog 50 #[.pointer (some ⟨g, 0, none⟩), .int .i64 most] w fun e w' => w.grownBy w' (some g) ∧ ((Wr.may l most ∧ e = .returned (.int .i64 ((Wr.first l).1 : Int)) ∧ ∃ D, Row w' g 47 (rdC D (n - (Wr.first l).2.toNat) (c - (Wr.first l).2.toNat) true false) ∧ ∀ W, Rd W A l → Rd W D (l.drop (Wr.first l).2.toNat)) ∨ (¬ Wr.may l most ∧ e = .panicked lacksP ∧ Row w' g 47 (rdC A n c true false))) := by
  have h0 : w.cell? ⟨g, 0, none⟩ = some (.slice A n c) := (hr.cell 0).trans rfl
  have hfi := first_any A n c l w hn hc hcm hd
  obtain ⟨h1, h2, h3⟩ := Wr.first_le l
  have HN := Lib.hid hn
  clear hn
  by_cases hm : Wr.may l most
  · have HM := Lib.hid hm
    have hm2 := hm
    unfold Wr.may at hm2
    clear hm
    generalize Wr.first l = F at *
    obtain ⟨f, s⟩ := F
    obtain ⟨hk, hle⟩ := hm2
    obtain ⟨k, rfl⟩ : ∃ k : Nat, s = k := ⟨s.toNat, by have : 0 < s := hk; omega⟩
    replace h1 : (k : Int) ≤ l.length := h1
    replace hk : (0 : Int) < k := hk
    replace hle : (f : Int) ≤ most := hle
    have hkn : k ≤ n := by rw [← HN.out]; omega
    have hdk : decide ((0 : Int) < (k : Int)) = true := decide_eq_true hk
    have hdk' : decide (0 < k) = true := decide_eq_true (by omega)
    have hdl : decide ((f : Int) ≤ most) = true := decide_eq_true hle
    go_enter Try.func50, Try.ntmps50
    go_wp2_with (first
      | (go_at_call 60; refine hfi.mono ?_; clear hfi; rintro e w1 ⟨rfl, hL1⟩)
      | (go_at_call 53; refine (must_any _ _).mono ?_; rintro e w2 ⟨rfl, rfl⟩)
      | (go_at_call 52; refine (rtake_any g A n c false l k _ HN.out hc hcm (by omega) (hr.belowAll hL1) (hd.below hL1)).mono ?_; rintro e w3 (⟨_, rfl, hD, hg3⟩ | ⟨hkn2, _⟩); rotate_left; exact absurd hkn2 (by omega))
      | fail)
    go_ret
    exact ⟨grown_trans (grown_weak hL1 g) hg3, .inl ⟨HM.out, rfl, by simpa using hD⟩⟩
  · have HM := Lib.hid hm
    have hm2 := hm
    unfold Wr.may at hm2
    clear hm
    generalize Wr.first l = F at *
    obtain ⟨f, s⟩ := F
    by_cases hk : (0 : Int) < s
    · have hle : ¬ (f : Int) ≤ most := fun h => hm2 ⟨hk, h⟩
      have hdk : decide ((0 : Int) < s) = true := decide_eq_true hk
      have hdl : decide ((f : Int) ≤ most) = false := decide_eq_false hle
      go_enter Try.func50, Try.ntmps50
      go_wp2_with (first
        | (go_at_call 60; refine hfi.mono ?_; clear hfi; rintro e w1 ⟨rfl, hL1⟩)
        | (go_at_call 53; refine (must_any _ _).mono ?_; rintro e w2 ⟨rfl, rfl⟩)
        | fail)
      exact ⟨rfl, grown_weak hL1 g, .inr ⟨HM.out, rfl, hr.belowAll hL1⟩⟩
    · have hdk : decide ((0 : Int) < s) = false := decide_eq_false hk
      go_enter Try.func50, Try.ntmps50
      go_wp2_with (first
        | (go_at_call 60; refine hfi.mono ?_; clear hfi; rintro e w1 ⟨rfl, hL1⟩)
        | (go_at_call 53; refine (must_any _ _).mono ?_; rintro e w2 ⟨rfl, rfl⟩)
        | fail)
      exact ⟨rfl, grown_weak hL1 g, .inr ⟨HM.out, rfl, hr.belowAll hL1⟩⟩
theorem row_ne_bytes {w : World} {g : Nat} {t : TypeId} {cs : Array Value} {b o : Nat} {l : List UInt8} (hr : Row w g t cs) (hcs : ∀ (i : Nat) (v : UInt8), cs[i]? ≠ some (byteV v)) (hl : l ≠ []) (hd : Rd w (some ⟨b, o, none⟩) l) : b ≠ g := fun e => by
  subst e
  obtain ⟨b', o', e', hc⟩ := hd hl
  injection e' with e'
  injection e' with e1 e2
  subst e1 e2
  have h0 := hc 0 (List.length_pos_iff.2 hl)
  rw [hr.cell] at h0
  exact hcs _ _ h0
/-- The closure of Number: it takes one and lays it into n. -/
theorem numFn_any (g q2 q3 q4 : Nat) (T2 T3 T4 : TypeId) (A : Option Addr) (n c : Nat) (l : List UInt8) (most : Int) (x : Int) (w : World) (hn : l.length = n) (hc : n ≤ c) (hcm : c ≤ 9223372036854775807) (hr : Row w g 47 (rdC A n c true false)) (hd : Rd w A l)
    (k2 : Row w q2 T2 #[.pointer (some ⟨g, 0, none⟩)]) (k3 : Row w q3 T3 #[.int .i64 most]) (k4 : Row w q4 T4 #[.int .i64 x]) (h4 : q4 ≠ g) :
    Calls Try.prog 49 #[.pointer (some ⟨q2, 0, none⟩), .pointer (some ⟨q3, 0, none⟩), .pointer (some ⟨q4, 0, none⟩)] w fun e w' => Same (fun k => k < w.heap.size ∧ k ≠ g ∧ k ≠ q4) w w' ∧ ((Wr.may l most ∧ e = .returned (.tuple #[]) ∧ Row w' q4 T4 #[.int .i64 ((Wr.first l).1 : Int)] ∧ ∃ D, Row w' g 47 (rdC D (n - (Wr.first l).2.toNat) (c - (Wr.first l).2.toNat) true false) ∧ ∀ W, Rd W A l → Rd W D (l.drop (Wr.first l).2.toNat)) ∨ (¬ Wr.may l most ∧ e = .panicked lacksP ∧ Row w' q4 T4 #[.int .i64 x] ∧ Row w' g 47 (rdC A n c true false))) := by
  have c2 : w.cell? ⟨q2, 0, none⟩ = some (.pointer (some ⟨g, 0, none⟩)) := (k2.cell 0).trans rfl
  have c3 : w.cell? ⟨q3, 0, none⟩ = some (.int .i64 most) := (k3.cell 0).trans rfl
  have hnu := rnumber_any g A n c l most w hn hc hcm hr hd
  have HR := Lib.hid hr
  have HN := Lib.hid hn
  clear hr hd hn
  go_enter Try.func49, Try.ntmps49
  go_wp2_with fail
  refine hnu.mono ?_
  clear hnu
  have hsz := k4.lt
  rintro e w1 ⟨hg1, ⟨hmay, rfl, D, kg, hD⟩ | ⟨hmay, rfl, kg⟩⟩
  · have k41 := k4.grown hg1 (fun e => h4 (Option.some.inj e))
    have c4 : w1.cell? ⟨q4, 0, none⟩ = some (.int .i64 x) := (k41.cell 0).trans rfl
    have f4 : w1.frozen? ⟨q4, 0, none⟩ = false := k41.frozen 0
    have KG := Lib.hid kg
    have KD := Lib.hid hD
    have K4 := Lib.hid k41
    clear kg hD k41
    go_wp2_with fail
    go_end0
    have hs := Same.set w1 ⟨q4, 0, none⟩ (.int .i64 ((Wr.first l).1 : Int))
    exact ⟨((Same.of_grown hg1).mono (fun k h => ⟨h.1, fun e => h.2.1 (Option.some.inj e)⟩)).trans (hs.mono (fun k h => h.2.2)), .inl ⟨hmay, rfl, K4.out.set 0 _, D, KG.out.same hs (fun e => h4 e.symm), KD.out⟩⟩
  · exact ⟨rfl, (Same.of_grown hg1).mono (fun k h => ⟨h.1, fun e => h.2.1 (Option.some.inj e)⟩), .inr ⟨hmay, rfl, k4.grown hg1 (fun e => h4 (Option.some.inj e)), kg⟩⟩
theorem rd_same_g {w w' : World} {g : Nat} {A : Option Addr} {n c : Nat} {made bad : Bool} {l : List UInt8} (hr : Row w g 47 (rdC A n c made bad)) (hd : Rd w A l) (hs : Same (fun k => k < w.heap.size ∧ k ≠ g) w w') : Rd w' A l :=
  hd.same hs fun b o e hl => by
    subst e
    exact ⟨hd.lt rfl hl, rdC_ne hr hl hd⟩
end Go.Proofs.Ytmipaacobioakaa
