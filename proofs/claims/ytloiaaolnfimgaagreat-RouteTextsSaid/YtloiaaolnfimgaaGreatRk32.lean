/- Walks, route: the document's reader beside a step that is filled. -/
import Derived.Test.YtloiaaolnfimgaaGreatRk31
import Derived.Test.YtloiaaolnfimgaaGreatRk6a
set_option linter.unusedVariables false
set_option linter.unusedSimpArgs false
namespace Go.Proofs.YtloiaaolnfimgaaGreat
open Go.RowKit Rt
namespace Rt
/-- Bytes, with noughts behind, to 32. -/
def pd (x : List UInt8) : List UInt8 := x ++ Sha.zeros (32 - x.length)
theorem pd_len {x : List UInt8} (h : x.length ≤ 32) : (pd x).length = 32 := by unfold pd; simp [Sha.zeros]; omega
theorem pd_id {x : List UInt8} (h : x.length = 32) : pd x = x := by unfold pd; rw [h]; simp [Sha.zeros]
theorem hC_pd {x : List UInt8} (h : x.length ≤ 32) : hC (pd x) = hC x := by
  unfold pd hC
  rw [show 32 - (x ++ Sha.zeros (32 - x.length)).length = 0 by simp [Sha.zeros]; omega]
  simp [Sha.zeros]
theorem hashR_le (l : List UInt8) (bad : Bool) : (Wr.hashR l bad).2.1.length ≤ 32 := by
  rcases Wr.hashR_len l bad with h | h
  · rw [h]; decide
  · omega
theorem hashR_ok {l : List UInt8} {bad : Bool} : ((Wr.hashR l bad).1.2 = false ↔ (bad = false ∧ (Wr.hashR l bad).2.2 = 0)) ∧ ((Wr.hashR l bad).2.2 = 0 → bad = false ∧ (Wr.hashR l bad).2.1.length = 32) := by
  unfold Wr.hashR
  by_cases h : 32 ≤ l.length <;> cases bad <;> simp [h]
theorem numR_ok {l : List UInt8} {bad : Bool} {most : Int} (hm : 0 ≤ most) : ((Wr.numR l bad most).1.2 = false ↔ (bad = false ∧ (Wr.numR l bad most).2.2 = 0)) ∧ ((Wr.numR l bad most).2.2 = 0 → bad = false) := by
  have hm' : ¬ most < 0 := by omega
  unfold Wr.numR
  by_cases h : Wr.may l most <;> cases bad <;> simp [h, hm']
theorem textR_ok {l : List UInt8} {bad : Bool} {most : Int} (hm : 0 ≤ most) : ((Wr.textR l bad most).1.2 = false ↔ (bad = false ∧ (Wr.textR l bad most).2.2 = 0)) ∧ ((Wr.textR l bad most).2.2 = 0 → bad = false) := by
  have hm' : ¬ most < 0 := by omega
  unfold Wr.textR
  by_cases h : Wr.textOk l most = true <;> cases bad <;> simp [h, hm']
theorem hashR_rest (l : List UInt8) (bad : Bool) : (Wr.hashR l bad).1.1.length ≤ l.length := by
  unfold Wr.hashR
  by_cases h : 32 ≤ l.length <;> cases bad <;> simp [h]
theorem numR_rest (l : List UInt8) (bad : Bool) (most : Int) : (Wr.numR l bad most).1.1.length ≤ l.length := by
  unfold Wr.numR
  by_cases h : Wr.may l most <;> by_cases h2 : most < 0 <;> cases bad <;> simp [h, h2]
end Rt
structure DR (w : World) (q9 q10 : Nat) (T9 : TypeId) (A0 : Option Addr) (b : List UInt8) (s : List UInt8 × Bool) (h : Hop) (W : World) : Prop where
  low : Below w.heap.size w W
  rd : Rd W A0 b
  off : ∀ bl o, A0 = some ⟨bl, o, none⟩ → b ≠ [] → bl ≠ q9 ∧ bl ≠ q10
  k10 : ∃ D c, Row W q10 89 (rfV D s.1.length c s.2) ∧ s.1.length ≤ c ∧ c ≤ 9223372036854775807 ∧ ∀ X, Rd X A0 b → Rd X D s.1
  k9 : Row W q9 T9 (hopC h)
  hw : h.wf
  ne : q9 ≠ q10
  at9 : w.heap.size ≤ q9
  at10 : w.heap.size ≤ q10
  len : s.1.length ≤ 1000000
section
variable {w W : World} {q9 q10 : Nat} {T9 : TypeId} {A0 : Option Addr} {b : List UInt8} {s : List UInt8 × Bool} {h : Hop}
theorem DR.later {W' : World} (d : DR w q9 q10 T9 A0 b s h W) (hL : Later W W') : DR w q9 q10 T9 A0 b s h W' := by
  obtain ⟨D, c, h1, h2, h3, h4⟩ := d.k10
  exact ⟨d.low.trans (hL.below.mono d.low.size), d.rd.later hL, d.off, ⟨D, c, h1.later hL, h2, h3, h4⟩, d.k9.later hL, d.hw, d.ne, d.at9, d.at10, d.len⟩
/-- Behind a write of another block. -/
theorem DR.far {W' : World} {q : Nat} (d : DR w q9 q10 T9 A0 b s h W) (hg : W.grownBy W' (some q)) (h9 : q9 ≠ q) (h10 : q10 ≠ q) (hb : ∀ bl o, A0 = some ⟨bl, o, none⟩ → b ≠ [] → bl ≠ q) (hq : w.heap.size ≤ q) : DR w q9 q10 T9 A0 b s h W' := by
  obtain ⟨D, c, h1, h2, h3, h4⟩ := d.k10
  exact ⟨d.low.grown hg d.low.size (fun j e => by injection e with e; omega), d.rd.grown hg (fun bl o e hne e2 => hb bl o e hne (Option.some.inj e2)), d.off, ⟨D, c, h1.grown hg (fun e => h10 (Option.some.inj e)), h2, h3, h4⟩, d.k9.grown hg (fun e => h9 (Option.some.inj e)), d.hw, d.ne, d.at9, d.at10, d.len⟩
/-- The reader's cell is written anew. -/
theorem DR.put10 {v : Value} {s' : List UInt8 × Bool} (d : DR w q9 q10 T9 A0 b s h W) (D2 : Option Addr) (c2 : Nat) (hv : v = .agg (rfV D2 s'.1.length c2 s'.2)) (hc : s'.1.length ≤ c2) (hcm : c2 ≤ 9223372036854775807) (hD : ∀ X, Rd X A0 b → Rd X D2 s'.1) (hl : s'.1.length ≤ 1000000) :
    ∃ W', (Instr.storeAt 89 (.pointer (some ⟨q10, 0, none⟩)) v).run Tryz.prog W = .ok () W' ∧ DR w q9 q10 T9 A0 b s' h W' := by
  obtain ⟨D, c, h1, h2, h3, h4⟩ := d.k10
  subst hv
  obtain ⟨W', e1, e2, e3⟩ := storeRf (A' := D2) (n' := s'.1.length) (c' := c2) (bad' := s'.2) h1
  exact ⟨W', e1, d.low.grown e3 d.low.size (fun j e => by injection e with e; have := d.at10; omega), d.rd.grown e3 (fun bl o e hne e2 => (d.off bl o e hne).2 (Option.some.inj e2)), d.off, ⟨D2, c2, e2, hc, hcm, hD⟩, d.k9.grown e3 (fun e => d.ne (Option.some.inj e)), d.hw, d.ne, d.at9, d.at10, hl⟩
/-- The step is written. -/
theorem DR.put9 {W' : World} {h' : Hop} (d : DR w q9 q10 T9 A0 b s h W) (hr : Row W' q9 T9 (hopC h')) (hw : h'.wf) (hg : W.grownBy W' (some q9)) : DR w q9 q10 T9 A0 b s h' W' := by
  obtain ⟨D, c, h1, h2, h3, h4⟩ := d.k10
  exact ⟨d.low.grown hg d.low.size (fun j e => by injection e with e; have := d.at9; omega), d.rd.grown hg (fun bl o e hne e2 => (d.off bl o e hne).1 (Option.some.inj e2)), d.off, ⟨D, c, h1.grown hg (fun e => d.ne (Option.some.inj e).symm), h2, h3, h4⟩, hr, hw, d.ne, d.at9, d.at10, d.len⟩
theorem DR.load (d : DR w q9 q10 T9 A0 b s h W) : ∃ D c, (Instr.loadAt 89 (.pointer (some ⟨q10, 0, none⟩))).run Tryz.prog W = .ok (.agg (rfV D s.1.length c s.2)) W ∧ s.1.length ≤ c ∧ c ≤ 9223372036854775807 ∧ (∀ X, Rd X A0 b → Rd X D s.1) := by
  obtain ⟨D, c, h1, h2, h3, h4⟩ := d.k10
  exact ⟨D, c, loadRf h1, h2, h3, h4⟩
theorem DR.key (d : DR w q9 q10 T9 A0 b s h W) : ∃ v0, (Instr.loadAt 89 (.pointer (some ⟨q10, 0, none⟩))).run Tryz.prog W = .ok v0 W ∧
    Calls Tryz.prog 41 #[v0] W fun e w2 => ∃ v, e = .returned (.tuple #[v, .agg (hC (Wr.hashR s.1 s.2).2.1), .int .i64 (Wr.hashR s.1 s.2).2.2]) ∧
      ∃ w3, (Instr.storeAt 89 (.pointer (some ⟨q10, 0, none⟩)) v).run Tryz.prog w2 = .ok () w3 ∧
      ∃ w4, (Instr.storeAt 25 (.pointer (some ⟨q9, 0, none⟩)) (.agg (hC (Wr.hashR s.1 s.2).2.1))).run Tryz.prog w3 = .ok () w4 ∧ DR w q9 q10 T9 A0 b (Wr.hashR s.1 s.2).1 { h with key := pd (Wr.hashR s.1 s.2).2.1 } w4 := by
  obtain ⟨D, c, h1, h2, h3, h4⟩ := d.load
  refine ⟨_, h1, (refHashR_any D s.1.length c s.1 s.2 W rfl h2 h3 (h4 W d.rd)).mono ?_⟩
  rintro e w2 ⟨hL, v, rfl, D2, c2, hv, hc2, hcm2, hD2⟩
  obtain ⟨w3, e3, d3⟩ := (d.later hL).put10 (s' := (Wr.hashR s.1 s.2).1) D2 c2 hv hc2 hcm2 (fun X hX => hD2 X (h4 X hX)) (Nat.le_trans (hashR_rest _ _) d.len)
  have hx := hashR_le s.1 s.2
  obtain ⟨w4, e4, r4, g4⟩ := storeHash (o := 0) (pd (Wr.hashR s.1 s.2).2.1) (pd_len hx) d3.k9 (by rw [hopC_size d3.hw]; decide)
  rw [hC_pd hx] at e4
  rw [hopC_setKey0 d3.hw _ (pd_len hx)] at r4
  exact ⟨v, rfl, w3, e3, w4, e4, d3.put9 r4 ⟨pd_len hx, d3.hw.2⟩ g4⟩
theorem DR.next (d : DR w q9 q10 T9 A0 b s h W) : ∃ v0, (Instr.loadAt 89 (.pointer (some ⟨q10, 0, none⟩))).run Tryz.prog W = .ok v0 W ∧
    Calls Tryz.prog 41 #[v0] W fun e w2 => ∃ v, e = .returned (.tuple #[v, .agg (hC (Wr.hashR s.1 s.2).2.1), .int .i64 (Wr.hashR s.1 s.2).2.2]) ∧
      ∃ w3, (Instr.storeAt 89 (.pointer (some ⟨q10, 0, none⟩)) v).run Tryz.prog w2 = .ok () w3 ∧
      ∃ w4, (Instr.storeAt 25 (.pointer (some ⟨q9, 32, none⟩)) (.agg (hC (Wr.hashR s.1 s.2).2.1))).run Tryz.prog w3 = .ok () w4 ∧ DR w q9 q10 T9 A0 b (Wr.hashR s.1 s.2).1 { h with next := pd (Wr.hashR s.1 s.2).2.1 } w4 := by
  obtain ⟨D, c, h1, h2, h3, h4⟩ := d.load
  refine ⟨_, h1, (refHashR_any D s.1.length c s.1 s.2 W rfl h2 h3 (h4 W d.rd)).mono ?_⟩
  rintro e w2 ⟨hL, v, rfl, D2, c2, hv, hc2, hcm2, hD2⟩
  obtain ⟨w3, e3, d3⟩ := (d.later hL).put10 (s' := (Wr.hashR s.1 s.2).1) D2 c2 hv hc2 hcm2 (fun X hX => hD2 X (h4 X hX)) (Nat.le_trans (hashR_rest _ _) d.len)
  have hx := hashR_le s.1 s.2
  obtain ⟨w4, e4, r4, g4⟩ := storeHash (o := 32) (pd (Wr.hashR s.1 s.2).2.1) (pd_len hx) d3.k9 (by rw [hopC_size d3.hw]; decide)
  rw [hC_pd hx] at e4
  rw [hopC_setNext d3.hw _ (pd_len hx)] at r4
  exact ⟨v, rfl, w3, e3, w4, e4, d3.put9 r4 ⟨d3.hw.1, pd_len hx⟩ g4⟩
theorem DR.amt (d : DR w q9 q10 T9 A0 b s h W) (most : Int) : ∃ v0, (Instr.loadAt 89 (.pointer (some ⟨q10, 0, none⟩))).run Tryz.prog W = .ok v0 W ∧
    Calls Tryz.prog 42 #[v0, .int .i64 most] W fun e w2 => ∃ v, e = .returned (.tuple #[v, .int .i64 (Wr.numR s.1 s.2 most).2.1, .int .i64 (Wr.numR s.1 s.2 most).2.2]) ∧
      ∃ w3, (Instr.storeAt 89 (.pointer (some ⟨q10, 0, none⟩)) v).run Tryz.prog w2 = .ok () w3 ∧
      ∃ w4, (Instr.storeAt 2 (.pointer (some ⟨q9, 64, none⟩)) (.int .i64 (Wr.numR s.1 s.2 most).2.1)).run Tryz.prog w3 = .ok () w4 ∧ DR w q9 q10 T9 A0 b (Wr.numR s.1 s.2 most).1 { h with amt := (Wr.numR s.1 s.2 most).2.1 } w4 := by
  obtain ⟨D, c, h1, h2, h3, h4⟩ := d.load
  refine ⟨_, h1, (refNumberR_any D s.1.length c s.1 s.2 most W rfl h2 h3 (by have := d.len; omega) (h4 W d.rd)).mono ?_⟩
  rintro e w2 ⟨hL, v, rfl, D2, c2, hv, hc2, hcm2, hD2⟩
  obtain ⟨w3, e3, d3⟩ := (d.later hL).put10 (s' := (Wr.numR s.1 s.2 most).1) D2 c2 hv hc2 hcm2 (fun X hX => hD2 X (h4 X hX)) (Nat.le_trans (numR_rest _ _ _) d.len)
  have r4 := d3.k9.set 64 (.int .i64 (Wr.numR s.1 s.2 most).2.1)
  rw [hopC_setAmt d3.hw] at r4
  exact ⟨v, rfl, w3, e3, _, storeI64 _ d3.k9 (hopC_amt d3.hw), d3.put9 r4 d3.hw (grown_set w3 q9 64 _)⟩
theorem DR.exp (d : DR w q9 q10 T9 A0 b s h W) (most : Int) : ∃ v0, (Instr.loadAt 89 (.pointer (some ⟨q10, 0, none⟩))).run Tryz.prog W = .ok v0 W ∧
    Calls Tryz.prog 42 #[v0, .int .i64 most] W fun e w2 => ∃ v, e = .returned (.tuple #[v, .int .i64 (Wr.numR s.1 s.2 most).2.1, .int .i64 (Wr.numR s.1 s.2 most).2.2]) ∧
      ∃ w3, (Instr.storeAt 89 (.pointer (some ⟨q10, 0, none⟩)) v).run Tryz.prog w2 = .ok () w3 ∧
      ∃ w4, (Instr.storeAt 2 (.pointer (some ⟨q9, 65, none⟩)) (.int .i64 (Wr.numR s.1 s.2 most).2.1)).run Tryz.prog w3 = .ok () w4 ∧ DR w q9 q10 T9 A0 b (Wr.numR s.1 s.2 most).1 { h with exp := (Wr.numR s.1 s.2 most).2.1 } w4 := by
  obtain ⟨D, c, h1, h2, h3, h4⟩ := d.load
  refine ⟨_, h1, (refNumberR_any D s.1.length c s.1 s.2 most W rfl h2 h3 (by have := d.len; omega) (h4 W d.rd)).mono ?_⟩
  rintro e w2 ⟨hL, v, rfl, D2, c2, hv, hc2, hcm2, hD2⟩
  obtain ⟨w3, e3, d3⟩ := (d.later hL).put10 (s' := (Wr.numR s.1 s.2 most).1) D2 c2 hv hc2 hcm2 (fun X hX => hD2 X (h4 X hX)) (Nat.le_trans (numR_rest _ _ _) d.len)
  have r4 := d3.k9.set 65 (.int .i64 (Wr.numR s.1 s.2 most).2.1)
  rw [hopC_setExp d3.hw] at r4
  exact ⟨v, rfl, w3, e3, _, storeI64 _ d3.k9 (hopC_exp d3.hw), d3.put9 r4 d3.hw (grown_set w3 q9 65 _)⟩
end
theorem allocInv2 (w : World) : (Instr.alloc 51 true (.tuple #[])).run Tryz.prog w = .ok (.pointer (some ⟨w.heap.size, 0, none⟩)) (w.alloc (.cells (hopC noHop) 51)) := allocInv w
end Go.Proofs.YtloiaaolnfimgaaGreat
