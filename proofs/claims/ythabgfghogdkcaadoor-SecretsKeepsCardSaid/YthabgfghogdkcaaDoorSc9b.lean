/- Walks, secrets: the reader's Hash, of bytes that lie at a known place; small helps of Read. -/
import Derived.Test.YthabgfghogdkcaaDoorSc9
set_option linter.unusedVariables false
set_option linter.unusedSimpArgs false
namespace Go.Proofs.YthabgfghogdkcaaDoor
open Go.RowKit
set_option maxRecDepth 100000 in
theorem hash_moved (g : Nat) (A : Option Addr) (c : Nat) (l : List UInt8) (bad : Bool) (w : World) (hrow : Row w g 106 (rdC A l.length c true bad)) (hc : l.length ≤ c) (hcm : c ≤ 9223372036854775807) (hd : Rd w A l) :
    Calls Tryd.prog 42 #[.pointer (some ⟨g, 0, none⟩)] w fun e w' => Same (fun k => k < w.heap.size ∧ k ≠ g) w w' ∧ e = .returned (.tuple #[.agg (hC (Wr.hashR l bad).2.1), .int .i64 (Wr.hashR l bad).2.2]) ∧ Moved w' g A l (Wr.hashR l bad).1.1 (Wr.hashR l bad).1.2 := by
  have hmf : ∀ (fn : Fn) (first cap : Array Value) (w : World), (Instr.makeFunc fn first cap).run Tryd.prog w = .ok (.func fn first cap) w := fun _ _ _ _ => rfl
  have k1 := (Row.new w 70 #[.pointer (some ⟨g, 0, none⟩)]).alloc (.cells (hC []) 23)
  have k2 := Row.new (w.alloc (.cells #[.pointer (some ⟨g, 0, none⟩)] 70)) 23 (hC [])
  have kg := (hrow.alloc (.cells #[.pointer (some ⟨g, 0, none⟩)] 70)).alloc (.cells (hC []) 23)
  have hb := below_new2 w (.cells #[.pointer (some ⟨g, 0, none⟩)] 70) (.cells (hC []) 23)
  have hgl := hrow.lt
  have hAl : ∀ b o, A = some ⟨b, o, none⟩ → l ≠ [] → b < w.heap.size := fun b o e h => hd.lt e h
  have HRW := Lib.hid hrow
  clear hrow
  have hvl := Wr.hashR_len l bad
  have htook : (Wr.took bad 0 (decide (32 ≤ l.length)) = true ∧ (Wr.hashR l bad).2.1 = l.take 32) ∨ (Wr.took bad 0 (decide (32 ≤ l.length)) = false ∧ (Wr.hashR l bad).2.1 = []) := by
    unfold Wr.took Wr.hashR
    by_cases h : 32 ≤ l.length <;> cases bad <;> simp [h]
  have hE := Wr.hashR_eq l bad
  generalize Wr.hashR l bad = R at *
  obtain ⟨⟨l', bad'⟩, v, no⟩ := R
  have hvl32 : v.length ≤ 32 := by rcases hvl with h | h; · { simp only at h; rw [h]; decide }; · { simp only at h; omega }
  have HVL := Lib.hid hvl32
  have HTO := Lib.hid htook
  have HE := Lib.hid hE
  clear htook hE hvl hvl32
  go_enter Tryd.func42, Tryd.ntmps42
  go_upto_region 1 with (first
    | (with_reducible refine wpList_alloc rfl 23 rfl (allocH _) ?_)
    | fail)
  simp only [World.size_alloc] at k2 ⊢
  obtain ⟨q1, hq1⟩ : ∃ q, q = w.heap.size := ⟨_, rfl⟩
  rw [← hq1] at k1 k2 ⊢
  have HQ := Lib.hid hq1
  clear hq1
  generalize (w.alloc (.cells #[.pointer (some ⟨g, 0, none⟩)] 70)).alloc (.cells (hC []) 23) = w1 at *
  have c1 : w1.cell? ⟨q1, 0, none⟩ = some (.pointer (some ⟨g, 0, none⟩)) := (k1.cell 0).trans rfl
  have hq2l := k2.lt
  have hne : q1 + 1 ≠ g := by have := HQ.out; omega
  have htry := try_moved g A l.length c l (l.drop 32) bad 0 _ #[.pointer (some ⟨q1 + 1, 0, none⟩), .pointer (some ⟨q1, 0, none⟩)] w1 kg rfl hc hcm (q1 + 1) hq2l (fun W => Row W (q1 + 1) 23 (hC [])) (fun W => Row W (q1 + 1) 23 (hC (l.take 32))) k2 (fun _ _ h hs => h.same hs ⟨hq2l, hne⟩) (fun _ _ h hs => h.same hs ⟨hq2l, hne⟩) (enters_of Tryd.func66 (by kernel_rfl) rfl _) (decide (32 ≤ l.length)) (fun hbad _ W1 hb1 => by
    subst hbad
    exact hashFn_any g q1 (q1 + 1) _ A l.length c l W1 rfl hc hcm (kg.later hb1) (hd.later (Later.step hb hb1)) (k1.later hb1) (k2.later hb1) (by have := HQ.out; omega) hne (by omega) (fun b o e h => by have := hAl b o e h; have := HQ.out; omega))
  rw [HE.out] at htry
  go_upto_region 2 with (first
    | (go_at_call 61; refine htry.mono ?_; clear htry; rintro e w2 ⟨hs, rfl, hm, hR1, hR0⟩)
    | fail)
  have k22 : Row w2 (q1 + 1) 23 (hC v) := by
    rcases HTO.out with ⟨h, h'⟩ | ⟨h, h'⟩
    · have := hR1 h
      rw [h']
      exact this
    · have := hR0 h
      rw [h']
      exact this
  have hld := loadHz HVL.out k22
  obtain ⟨w3, hst, k23, hg3⟩ := storeH (b := v) HVL.out HVL.out k22
  have HM := Lib.hid hm
  have HS := Lib.hid hs
  clear hm hs hR1 hR0
  go_wp2_with (first
    | (refine wpList_load rfl 23 (.tmp 2) rfl (.pointer (some ⟨q1 + 1, 0, none⟩)) rfl hld ?_)
    | (refine wpList_store rfl 23 (.tmp 2) (.tmp 7) rfl (.pointer (some ⟨q1 + 1, 0, none⟩)) (.agg (hC v)) rfl rfl hst ?_)
    | fail)
  have hq := HQ.out
  have hs0 : Same (fun k => k < w.heap.size ∧ k ≠ g) w w3 := (((Same.of_below hb).mono (fun k h => h.1)).trans (HS.out.mono (fun k h => ⟨Nat.lt_of_lt_of_le h.1 hb.size, h.2, by have := h.1; omega⟩))).trans ((Same.of_grown hg3).mono (fun k h => ⟨Nat.lt_of_lt_of_le h.1 (Nat.le_trans hb.size HS.out.size), fun e => by have := Option.some.inj e; have := h.1; omega⟩))
  have hmv : Moved w3 g A l l' bad' := HM.out.same (Same.of_grown hg3) ⟨Nat.lt_of_lt_of_le hgl (Nat.le_trans hb.size HS.out.size), fun e => hne (Option.some.inj e).symm⟩
  exact bodyPost_ret (results_cell_tmp rfl _ _ (q1 + 1) 23 (hC v) (0, 0) _ (.int .i64 no) rfl rfl k23 Tryd.underlying23 rfl (by rw [hC_size _ HVL.out]; exact infoH)) rfl ⟨hs0, rfl, hmv⟩
theorem below_same {B g : Nat} {w W W' : World} (hb : Below B w W) (hs : Same (fun k => k < W.heap.size ∧ k ≠ g) W W') (hB : B ≤ W.heap.size) (hg : B ≤ g) : Below B w W' :=
  ((Same.of_below hb).trans (hs.mono fun k hk => by
    have hk' : k < B := hk
    exact ⟨by omega, by omega⟩)).below
theorem kC_congr {n : Int} {ix jx : Nat → Nat} {sc tc : Nat → List UInt8} {m : Bool} (h1 : ∀ p, p < 32 → ix p = jx p) (h2 : ∀ p, p < 32 → hC (sc p) = hC (tc p)) : kC n ix sc m = kC n jx tc m := by
  apply Array.ext_getElem?
  intro i
  by_cases h : i < 1058
  · rw [kC_get _ _ _ _ _ h, kC_get _ _ _ _ _ h]
    congr 1
    unfold kCell
    by_cases h0 : i = 0
    · rw [if_pos h0, if_pos h0]
    · rw [if_neg h0, if_neg h0]
      by_cases h3 : i = 1057
      · rw [if_pos h3, if_pos h3]
      · rw [if_neg h3, if_neg h3]
        have hp : (i - 1) / 33 < 32 := by omega
        rw [h1 _ hp, h2 _ hp]
  · rw [Array.getElem?_eq_none (by rw [kC_size]; omega), Array.getElem?_eq_none (by rw [kC_size]; omega)]
/-- An empty keep. -/
theorem kC_zero (n : Int) (N : Nat) (l : List UInt8) : kC n (fun _ => 0) (fun _ => []) true = kC n (Sec.ixK N 0) (Sec.scK l 0) true :=
  kC_congr (fun p _ => by unfold Sec.ixK; rw [if_neg (by omega)]) (fun p _ => by unfold Sec.scK; rw [if_neg (by omega)]; exact hC_zeros.symm)
theorem storePK {b o : Nat} {x : Option Addr} {v : Value} {W : World} (hc : W.cell? ⟨b, o, none⟩ = some v) (hf : W.frozen? ⟨b, o, none⟩ = false) : (Instr.storeAt 31 (.pointer (some ⟨b, o, none⟩)) (.pointer x)).run Tryd.prog W = .ok () (W.setCell ⟨b, o, none⟩ (.pointer x)) := by
  go_simp
end Go.Proofs.YthabgfghogdkcaaDoor
