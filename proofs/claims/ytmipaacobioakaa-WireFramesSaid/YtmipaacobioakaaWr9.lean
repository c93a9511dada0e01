/- Walks: the reader's Truth. -/
import Derived.Test.YtmipaacobioakaaWr8
set_option linter.unusedVariables false
set_option linter.unusedSimpArgs false
namespace Go.Proofs.Ytmipaacobioakaa
open Go.RowKit
theorem Rd.grown_g {w w' : World} {g : Nat} {A : Option Addr} {n c : Nat} {made bad : Bool} {l : List UInt8} (hd : Rd w A l) (hr : Row w g 47 (rdC A n c made bad)) (hg : w.grownBy w' (some g)) : Rd w' A l :=
  rd_same_g hr hd ((Same.of_grown hg).mono fun k h => ⟨h.1, fun e => h.2 (Option.some.inj e)⟩)
def Wr.truthOk : List UInt8 → Bool
  | [] => false
  | x :: _ => decide (x.toNat ≤ 1)
def Wr.truthAt : List UInt8 → Bool
  | [] => false
  | x :: _ => decide (x.toNat = 1)
theorem truthFn_any (g q1 q2 : Nat) (T1 T2 : TypeId) (A : Option Addr) (n c : Nat) (l : List UInt8) (x0 : Bool) (w : World) (hn : l.length = n) (hc : n ≤ c) (hcm : c ≤ 9223372036854775807) (hr : Row w g 47 (rdC A n c true false)) (hd : Rd w A l)
    (k1 : Row w q1 T1 #[.pointer (some ⟨g, 0, none⟩)]) (k2 : Row w q2 T2 #[.bool x0]) (h2 : q2 ≠ g) :
    Calls Try.prog 51 #[.pointer (some ⟨q1, 0, none⟩), .pointer (some ⟨q2, 0, none⟩)] w fun e w' => Same (fun k => k < w.heap.size ∧ k ≠ g ∧ k ≠ q2) w w' ∧ ((Wr.truthOk l = true ∧ e = .returned (.tuple #[]) ∧ Row w' q2 T2 #[.bool (Wr.truthAt l)] ∧ Moved w' g A l l.tail false) ∨ (Wr.truthOk l = false ∧ e = .panicked lacksP ∧ Row w' q2 T2 #[.bool x0] ∧ ∃ D n' c', Row w' g 47 (rdC D n' c' true false))) := by
  have c1 : w.cell? ⟨q1, 0, none⟩ = some (.pointer (some ⟨g, 0, none⟩)) := (k1.cell 0).trans rfl
  have htk := rtake_any g A n c false l 1 w hn hc hcm (by decide) hr hd
  have hid : ∀ w1, w.grownBy w1 (some g) → Same (fun k => k < w.heap.size ∧ k ≠ g ∧ k ≠ q2) w w1 := fun w1 hg => (Same.of_grown hg).mono (fun k h => ⟨h.1, fun e => h.2.1 (Option.some.inj e)⟩)
  rcases l with _ | ⟨x, r⟩
  · simp at hn
    subst hn
    go_enter Try.func51, Try.ntmps51
    go_wp2_with (first
      | (go_at_call 52; refine htk.mono ?_; clear htk; rintro e w1 (⟨h, _⟩ | ⟨_, rfl, rfl⟩); exact absurd h (by decide))
      | fail)
    exact ⟨rfl, hid _ (grown_refl _ _), .inr ⟨rfl, rfl, k2, A, 0, c, hr⟩⟩
  have hn1 : 1 ≤ n := by rw [← hn]; simp
  obtain ⟨b, o, rfl, hx⟩ := hd.at_ (k := 0) (by simp)
  rw [Nat.add_zero] at hx
  have hxl := x.toNat_lt
  have hmv : ∀ w1, (∃ D, Row w1 g 47 (rdC D (n - 1) (c - 1) true false) ∧ ∀ W, Rd W (some ⟨b, o, none⟩) (x :: r) → Rd W D ((x :: r).drop 1)) → Moved w1 g (some ⟨b, o, none⟩) (x :: r) (x :: r).tail false := fun w1 ⟨D, h1, h2⟩ => ⟨D, c - 1, by simp at hn; rw [show (x :: r).tail.length = n - 1 by simp; omega]; exact h1, by simp at hn ⊢; omega, by omega, h2⟩
  have HMV := Lib.hid hmv
  clear hmv
  by_cases h1 : x.toNat ≤ 1
  · have hd1 : decide ((x.toNat : Int) ≤ 1) = true := decide_eq_true (by omega)
    go_enter Try.func51, Try.ntmps51
    go_wp2_with (first
      | (go_at_call 52; refine htk.mono ?_; clear htk; rintro e w1 (⟨_, rfl, hD, hg⟩ | ⟨h, _⟩); rotate_left; exact absurd h (by omega); have hx1 : w1.cell? ⟨b, o, none⟩ = some (.int .u8 (x.toNat : Int)) := by { obtain ⟨b', o', e', hc'⟩ := (hd.grown_g hr hg).at_ (k := 0) (by simp); cases e'; exact hc' }; have k21 := k2.grown hg (fun e => h2 (Option.some.inj e)); have c2 : w1.cell? ⟨q2, 0, none⟩ = some (.bool x0) := (k21.cell 0).trans rfl; have f2 : w1.frozen? ⟨q2, 0, none⟩ = false := k21.frozen 0; have K2 := Lib.hid k21; have HD := Lib.hid hD; have HG := Lib.hid hg; clear k21 hD hg)
      | (go_at_call 53; refine (must_any _ _).mono ?_; rintro e w2 ⟨rfl, rfl⟩)
      | fail)
    go_end0
    obtain ⟨D, hD, hDr⟩ := HMV.out _ HD.out
    have hs2 := Same.set w2 ⟨q2, 0, none⟩ (.bool ((x.toNat : Int) == 1))
    have e1 : ((x.toNat : Int) == 1) = Wr.truthAt (x :: r) := by simp [Wr.truthAt]; rw [Bool.eq_iff_iff]; simp; omega
    rw [e1] at hs2 ⊢
    exact ⟨(hid _ HG.out).trans (hs2.mono (fun k h => h.2.2)), .inl ⟨by simp [Wr.truthOk, h1], rfl, K2.out.set 0 _, Moved.far ⟨D, hD, hDr⟩ (fun e => h2 e.symm) _⟩⟩
  · have hd1 : decide ((x.toNat : Int) ≤ 1) = false := decide_eq_false (by omega)
    go_enter Try.func51, Try.ntmps51
    go_wp2_with (first
      | (go_at_call 52; refine htk.mono ?_; clear htk; rintro e w1 (⟨_, rfl, hD, hg⟩ | ⟨h, _⟩); rotate_left; exact absurd h (by omega); have hx1 : w1.cell? ⟨b, o, none⟩ = some (.int .u8 (x.toNat : Int)) := by { obtain ⟨b', o', e', hc'⟩ := (hd.grown_g hr hg).at_ (k := 0) (by simp); cases e'; exact hc' }; have k21 := k2.grown hg (fun e => h2 (Option.some.inj e)); have K2 := Lib.hid k21; have HD := Lib.hid hD; have HG := Lib.hid hg; clear k21 hD hg)
      | (go_at_call 53; refine (must_any _ _).mono ?_; rintro e w2 ⟨rfl, rfl⟩)
      | fail)
    obtain ⟨D, hD, _⟩ := HD.out
    exact ⟨rfl, hid _ HG.out, .inr ⟨by simp [Wr.truthOk]; omega, rfl, K2.out, D, _, _, hD⟩⟩
def Wr.truthR (l : List UInt8) (bad : Bool) : (List UInt8 × Bool) × Bool × Int :=
  if bad then ((l, true), false, 140) else if Wr.truthOk l then ((l.tail, false), Wr.truthAt l, 0) else ((l, true), false, 140)
theorem Wr.truthR_eq (l : List UInt8) (bad : Bool) : Wr.tried l l.tail bad 0 (Wr.truthOk l) = ((Wr.truthR l bad).1, (Wr.truthR l bad).2.2) := by
  unfold Wr.tried Wr.truthR
  cases bad <;> cases Wr.truthOk l <;> rfl
set_option maxRecDepth 100000 in
theorem truth_any (g : Nat) (l : List UInt8) (bad : Bool) (w : World) (hr : IsRd w g l bad) :
    Calls Try.prog 20 #[.pointer (some ⟨g, 0, none⟩)] w fun e w' => Same (fun k => k < w.heap.size ∧ k ≠ g) w w' ∧ e = .returned (.tuple #[.bool (Wr.truthR l bad).2.1, .int .i64 (Wr.truthR l bad).2.2]) ∧ IsRd w' g (Wr.truthR l bad).1.1 (Wr.truthR l bad).1.2 := by
  obtain ⟨A, c, hrow, hc, hcm, hd⟩ := hr
  have hmf : ∀ (fn : Fn) (first cap : Array Value) (w : World), (Instr.makeFunc fn first cap).run Try.prog w = .ok (.func fn first cap) w := fun _ _ _ _ => rfl
  have k1 := (Row.new w 37 #[.pointer (some ⟨g, 0, none⟩)]).alloc (.cells #[.bool false] 4)
  have k2 := Row.new (w.alloc (.cells #[.pointer (some ⟨g, 0, none⟩)] 37)) 4 #[.bool false]
  have kg := (hrow.alloc (.cells #[.pointer (some ⟨g, 0, none⟩)] 37)).alloc (.cells #[.bool false] 4)
  have hb := below_new2 w (.cells #[.pointer (some ⟨g, 0, none⟩)] 37) (.cells #[.bool false] 4)
  have hgl := hrow.lt
  have HRW := Lib.hid hrow
  clear hrow
  have htook : (Wr.took bad 0 (Wr.truthOk l) = true ∧ (Wr.truthR l bad).2.1 = Wr.truthAt l) ∨ (Wr.took bad 0 (Wr.truthOk l) = false ∧ (Wr.truthR l bad).2.1 = false) := by
    unfold Wr.took Wr.truthR
    cases bad <;> cases Wr.truthOk l <;> simp
  have hE := Wr.truthR_eq l bad
  generalize Wr.truthR l bad = R at *
  obtain ⟨⟨l', bad'⟩, v, no⟩ := R
  have HTO := Lib.hid htook
  have HE := Lib.hid hE
  clear htook hE
  go_enter Try.func20, Try.ntmps20
  go_upto_region 1 with fail
  simp only [World.size_alloc] at k2
  obtain ⟨q1, hq1⟩ : ∃ q, q = w.heap.size := ⟨_, rfl⟩
  rw [← hq1] at k1 k2 ⊢
  have HQ := Lib.hid hq1
  clear hq1
  generalize (w.alloc (.cells #[.pointer (some ⟨g, 0, none⟩)] 37)).alloc (.cells #[.bool false] 4) = w1 at *
  have c1 : w1.cell? ⟨q1, 0, none⟩ = some (.pointer (some ⟨g, 0, none⟩)) := (k1.cell 0).trans rfl
  have hq2l := k2.lt
  have hne : q1 + 1 ≠ g := by have := HQ.out; omega
  have htry := try_moved g A l.length c l l.tail bad 0 _ #[.pointer (some ⟨q1, 0, none⟩), .pointer (some ⟨q1 + 1, 0, none⟩)] w1 kg rfl hc hcm (q1 + 1) hq2l (fun W => Row W (q1 + 1) 4 #[.bool false]) (fun W => Row W (q1 + 1) 4 #[.bool (Wr.truthAt l)]) k2 (fun _ _ h hs => h.same hs ⟨hq2l, hne⟩) (fun _ _ h hs => h.same hs ⟨hq2l, hne⟩) (enters_of Try.func51 (by kernel_rfl) rfl _) (Wr.truthOk l) (fun hbad _ W1 hb1 => by
    subst hbad
    exact truthFn_any g q1 (q1 + 1) _ _ A l.length c l false W1 rfl hc hcm (kg.later hb1) (hd.later (Later.step hb hb1)) (k1.later hb1) (k2.later hb1) hne)
  rw [HE.out] at htry
  go_wp2_with (first
    | (go_at_call 47; refine htry.mono ?_; clear htry; rintro e w2 ⟨hs, rfl, hm, hR1, hR0⟩; have k22 : Row w2 (q1 + 1) 4 #[.bool v] := by { rcases HTO.out with ⟨h, h'⟩ | ⟨h, h'⟩; · { have := hR1 h; simp only at h'; rw [h']; exact this }; · { have := hR0 h; simp only at h'; rw [h']; exact this } }; clear hR1 hR0; have c2 : w2.cell? ⟨q1 + 1, 0, none⟩ = some (.bool v) := (k22.cell 0).trans rfl; have f2 : w2.frozen? ⟨q1 + 1, 0, none⟩ = false := k22.frozen 0; have K2 := Lib.hid k22; have HM := Lib.hid hm; have HS := Lib.hid hs; clear k22 hm hs)
    | fail)
  have k5 := K2.out.set 0 (.bool v)
  have hcv : (w2.setCell ⟨q1 + 1, 0, none⟩ (.bool v)).cell? ⟨q1 + 1, 0, none⟩ = some (.bool v) := (k5.cell 0).trans rfl
  have hst := Same.set w2 ⟨q1 + 1, 0, none⟩ (.bool v)
  have hq := HQ.out
  have hs0 : Same (fun k => k < w.heap.size ∧ k ≠ g) w (w2.setCell ⟨q1 + 1, 0, none⟩ (.bool v)) := (((Same.of_below hb).mono (fun k h => h.1)).trans (HS.out.mono (fun k h => ⟨Nat.lt_of_lt_of_le h.1 hb.size, h.2, by have := h.1; omega⟩))).trans (hst.mono (fun k h => by show k ≠ q1 + 1; have := h.1; omega))
  exact bodyPost_ret (v := .tuple #[.bool v, .int .i64 no]) (by simp [results, Try.results20, go_sem, hcv]) rfl ⟨hs0, rfl, (HM.out.far (p := ⟨q1 + 1, 0, none⟩) (fun e => hne e.symm) _).isRd (rd_same_g HRW.out hd hs0)⟩
end Go.Proofs.Ytmipaacobioakaa
