/- Walks, msgs: the document's reader: hash; a field is read and laid. -/
import Derived.Test.YtcajhdmppfiaeaaGreatGl13
import Derived.Test.YtcajhdmppfiaeaaGreatGl3
set_option linter.unusedVariables false
set_option linter.unusedSimpArgs false
namespace Go.Proofs.YtcajhdmppfiaeaaGreat
open Go.RowKit Ms
/-- The document's reader of messages at work. -/
structure RA (A0 : Option Addr) (l0 : List UInt8) (w : World) (g : Nat) (r : RdS) (W : World) : Prop where
  low : Below w.heap.size w W
  at_ : w.heap.size ≤ g
  rd : ∃ D c, (r.l.length ≤ c ∧ c ≤ 9223372036854775807 ∧ ∀ X, Rd X A0 l0 → Rd X D r.l) ∧ Row W g 104 (rfV D r.l.length c r.bad)
  sd : Row W (g + 1) 29 (saidC r.s)
  wf : r.s.wf
  r4 : Row W (g + 2) 104 (rfV none 0 0 false)
  r5 : Row W (g + 3) 29 (saidC (Ms.blank 0))
  len : r.l.length ≤ 9223372036854775000 ∧ r.s.route.length ≤ 9223372036854775000
section
variable {A0 : Option Addr} {l0 : List UInt8} {w W W1 W2 W3 : World} {g : Nat} {r : RdS}
theorem RA.go (hA : RA A0 l0 w g r W) (f : Fld) {D : Option Addr} {c : Nat} (hL : Later W W1) (hD : (take1 r f).l.length ≤ c ∧ c ≤ 9223372036854775807 ∧ ∀ X, Rd X A0 l0 → Rd X D (take1 r f).l)
    (hr2 : Row W2 g 104 (rfV D (take1 r f).l.length c (take1 r f).bad)) (hg2 : W1.grownBy W2 (some g)) (hr3 : Row W3 (g + 1) 29 (saidC (take1 r f).s)) (hg3 : W2.grownBy W3 (some (g + 1))) : RA A0 l0 w g (take1 r f) W3 := by
  have n1 : ∀ k, some (g + 1 + k) ≠ some g := fun k e => by injection e with e; omega
  have n2 : ∀ k, k ≠ 1 → some (g + k) ≠ some (g + 1) := fun k hk e => by injection e with e; omega
  have hz : w.heap.size ≤ W1.heap.size := Nat.le_trans hA.low.size hL.size
  have low2 := (hA.low.trans (hL.below.mono hA.low.size)).grown hg2 hz (fun j e => by injection e with e; have := hA.at_; omega)
  refine ⟨low2.grown hg3 low2.size (fun j e => by injection e with e; have := hA.at_; omega), hA.at_, ⟨D, c, hD, hr2.grown hg3 (n2 0 (by decide))⟩, hr3, take1_wf hA.wf f, ?_, ?_, route_le r _ hA.len.1 hA.len.2 f⟩
  · exact ((hA.r4.later hL).grown hg2 (n1 1)).grown hg3 (n2 2 (by decide))
  · exact ((hA.r5.later hL).grown hg2 (n1 2)).grown hg3 (n2 3 (by decide))
theorem RA.mid (hA : RA A0 l0 w g r W) (hL : Later W W1) (hg2 : W1.grownBy W2 (some g)) : Row W2 (g + 1) 29 (saidC r.s) := (hA.sd.later hL).grown hg2 (fun e => by injection e with e; omega)
theorem ra_num (hA : RA A0 l0 w g r W) (hX : Rd w A0 l0) (j : Nat) (M : Int) (hj : j < 12) : ∃ D c, (Instr.loadAt 104 (.pointer (some ⟨g, 0, none⟩))).run Tryz.prog W = .ok (.agg (rfV D r.l.length c r.bad)) W ∧
    Calls Tryz.prog 45 #[.agg (rfV D r.l.length c r.bad), .int .i64 M] W fun e W1 => ∃ v x, e = .returned (.tuple #[v, x]) ∧ ∃ W2 W3, (Instr.storeAt 104 (.pointer (some ⟨g, 0, none⟩)) v).run Tryz.prog W1 = .ok () W2 ∧ (Instr.storeAt 2 (.pointer (some ⟨g + 1, offN j, none⟩)) x).run Tryz.prog W2 = .ok () W3 ∧ RA A0 l0 w g (take1 r (.num j M)) W3 := by
  obtain ⟨D, c, hD, kr⟩ := hA.rd
  refine ⟨D, c, loadR1 kr, (rdNum_any ⟨D, c, rfl, hD⟩ M W (hX.below hA.low) hA.len.1).mono fun e W1 ⟨hL, v, he, D2, c2, hv, hD2⟩ => ?_⟩
  subst hv
  obtain ⟨W2, h1, h2, h3⟩ := storeR1 (A' := D2) (n' := (Wr.numR r.l r.bad M).1.1.length) (c' := c2) (bad' := (Wr.numR r.l r.bad M).1.2) (kr.later hL)
  obtain ⟨h4, h5⟩ := storeSaidN hA.wf (hA.mid hL h3) j hj (Wr.numR r.l r.bad M).2.1
  exact ⟨_, _, he, W2, _, h1, h4, hA.go (.num j M) hL hD2 h2 h3 h5 (grown_set _ _ _ _)⟩
theorem ra_text (hA : RA A0 l0 w g r W) (hX : Rd w A0 l0) : ∃ D c, (Instr.loadAt 104 (.pointer (some ⟨g, 0, none⟩))).run Tryz.prog W = .ok (.agg (rfV D r.l.length c r.bad)) W ∧
    Calls Tryz.prog 101 #[.agg (rfV D r.l.length c r.bad), .int .i64 512] W fun e W1 => ∃ v x, e = .returned (.tuple #[v, x]) ∧ ∃ W2 W3, (Instr.storeAt 104 (.pointer (some ⟨g, 0, none⟩)) v).run Tryz.prog W1 = .ok () W2 ∧ (Instr.storeAt 9 (.pointer (some ⟨g + 1, 301, none⟩)) x).run Tryz.prog W2 = .ok () W3 ∧ RA A0 l0 w g (take1 r .route) W3 := by
  obtain ⟨D, c, hD, kr⟩ := hA.rd
  refine ⟨D, c, loadR1 kr, (rdText_any ⟨D, c, rfl, hD⟩ 512 W (hX.below hA.low) hA.len.1).mono fun e W1 ⟨hL, v, he, D2, c2, hv, hD2⟩ => ?_⟩
  subst hv
  obtain ⟨W2, h1, h2, h3⟩ := storeR1 (A' := D2) (n' := (Wr.textR r.l r.bad 512).1.1.length) (c' := c2) (bad' := (Wr.textR r.l r.bad 512).1.2) (kr.later hL)
  obtain ⟨h4, h5⟩ := storeSaidR hA.wf (hA.mid hL h3) (Wr.textR r.l r.bad 512).2.1
  exact ⟨_, _, he, W2, _, h1, h4, hA.go .route hL hD2 h2 h3 h5 (grown_set _ _ _ _)⟩
theorem ra_hash (HH : ∀ {A0 : Option Addr} {l0 l : List UInt8} {v : Value} {bad : Bool}, RefV A0 l0 v l bad → ∀ w : World, Rd w A0 l0 → l.length ≤ 9223372036854775000 → Calls Tryz.prog 100 #[v] w fun e w' => Later w w' ∧ ∃ v', e = .returned (.tuple #[v', .agg (hC (Wr.hashR l bad).2.1)]) ∧ RefV A0 l0 v' (Wr.hashR l bad).1.1 (Wr.hashR l bad).1.2)
    (hA : RA A0 l0 w g r W) (hX : Rd w A0 l0) (j : Nat) (hj : j < 9) : ∃ D c, (Instr.loadAt 104 (.pointer (some ⟨g, 0, none⟩))).run Tryz.prog W = .ok (.agg (rfV D r.l.length c r.bad)) W ∧
    Calls Tryz.prog 100 #[.agg (rfV D r.l.length c r.bad)] W fun e W1 => ∃ v x, e = .returned (.tuple #[v, x]) ∧ ∃ W2 W3, (Instr.storeAt 104 (.pointer (some ⟨g, 0, none⟩)) v).run Tryz.prog W1 = .ok () W2 ∧ (Instr.storeAt 24 (.pointer (some ⟨g + 1, offH j, none⟩)) x).run Tryz.prog W2 = .ok () W3 ∧ RA A0 l0 w g (take1 r (.hash j)) W3 := by
  obtain ⟨D, c, hD, kr⟩ := hA.rd
  refine ⟨D, c, loadR1 kr, (HH ⟨D, c, rfl, hD⟩ W (hX.below hA.low) hA.len.1).mono fun e W1 ⟨hL, v, he, D2, c2, hv, hD2⟩ => ?_⟩
  subst hv
  obtain ⟨W2, h1, h2, h3⟩ := storeR1 (A' := D2) (n' := (Wr.hashR r.l r.bad).1.1.length) (c' := c2) (bad' := (Wr.hashR r.l r.bad).1.2) (kr.later hL)
  obtain ⟨W3, h4, h5, h6⟩ := storeSaidH hA.wf (hA.mid hL h3) j hj (pad32 (Wr.hashR r.l r.bad).2.1) (pad32_len _)
  rw [hC_pad _ (Wr.hashR_len r.l r.bad)] at h4
  exact ⟨_, _, he, W2, W3, h1, h4, hA.go (.hash j) hL hD2 h2 h3 h5 h6⟩
end
end Go.Proofs.YtcajhdmppfiaeaaGreat
