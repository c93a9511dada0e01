/- Walks: the document's reader takes a truth, a text. -/
import Derived.Test.YtmipaacobioakaaWr22
set_option linter.unusedVariables false
set_option linter.unusedSimpArgs false
namespace Go.Proofs.Ytmipaacobioakaa
open Go.RowKit
theorem idxB0 {b o c : Nat} (W : World) : (Instr.indexAt 22 (.slice (some ⟨b, o, none⟩) 1 c) (.int .i64 0)).run Try.prog W = .ok (.pointer (some ⟨b, o, none⟩)) W := by
  go_simp
theorem loadByte {b o : Nat} {x : UInt8} {W : World} (hc : W.cell? ⟨b, o, none⟩ = some (byteV x)) : (Instr.loadAt 5 (.pointer (some ⟨b, o, none⟩))).run Try.prog W = .ok (byteV x) W := by
  go_simp
theorem grown_cell {w w' : World} {r b o : Nat} {v : Value} (hg : w.grownBy w' (some r)) (hne : b ≠ r) (hc : w.cell? ⟨b, o, none⟩ = some v) : w'.cell? ⟨b, o, none⟩ = some v :=
  (World.cell?_of_block (w := w) (a := ⟨b, o, none⟩) (hg.block b (block_lt_of_cell hc) (fun e => hne (Option.some.inj e)))).trans hc
set_option maxRecDepth 100000 in
set_option maxHeartbeats 1000000 in
theorem refTruthR_any (A : Option Addr) (n c : Nat) (l : List UInt8) (bad : Bool) (w : World) (hn : l.length = n) (hc : n ≤ c) (hcm : c ≤ 9223372036854775807) (hnm : n ≤ 9223372036854775000) (hr : Rd w A l) :
    Calls Try.prog 43 #[.agg (rfV A n c bad)] w fun e w' => Later w w' ∧ ∃ v, e = .returned (.tuple #[v, .bool (Wr.truthR l bad).2.1, .int .i64 (Wr.truthR l bad).2.2]) ∧ RefV A l v (Wr.truthR l bad).1.1 (Wr.truthR l bad).1.2 := by
  have k1 := (Row.new w 34 (rfV A n c bad)).alloc (.cells (rfV none 0 0 false) 34)
  have k2 := Row.new (w.alloc (.cells (rfV A n c bad) 34)) 34 (rfV none 0 0 false)
  have hb := (((Later.refl w).alloc (.cells (rfV A n c bad) 34)).alloc (.cells (rfV none 0 0 false) 34))
  refine Calls.post fun Φ HΦ => ?_
  go_enter Try.func43, Try.ntmps43
  go_upto_region 1 with (first
    | (with_reducible refine wpList_alloc rfl 34 rfl (allocRf _) ?_)
    | fail)
  simp only [World.size_alloc] at k2 ⊢
  obtain ⟨q, hq⟩ : ∃ q, q = w.heap.size := ⟨_, rfl⟩
  rw [← hq] at k1 k2 ⊢
  generalize (w.alloc (.cells (rfV A n c bad) 34)).alloc (.cells (rfV none 0 0 false) 34) = w1 at *
  have HQ := Lib.hid hq
  have HN := Lib.hid hn
  clear hq hn
  have hld := loadRf k1
  have htk := refTake_any A n c l bad 1 w1 HN.out hc (by omega) (by decide)
  by_cases hok : bad = false ∧ 1 ≤ n
  · obtain ⟨hbad, hn1⟩ := hok
    subst hbad
    rcases l with _ | ⟨x, r⟩
    · exact absurd HN.out (by simp; omega)
    obtain ⟨b, o, rfl, hx⟩ := hr.at_ (k := 0) (by simp)
    rw [Nat.add_zero] at hx
    have hx := hb.cell hx
    have hxl := x.toNat_lt
    go_upto_region 2 with (first
      | (refine wpList_load rfl 34 (.tmp 1) rfl (.pointer (some ⟨q, 0, none⟩)) rfl hld ?_)
      | (go_at_call 69; refine htk.mono ?_; clear htk; rintro e w2 ⟨hL2, ⟨_, _, D, rfl, hD⟩ | ⟨h, _⟩⟩; rotate_left; exact absurd h (by simp; omega); have hx2 := hL2.cell hx; obtain ⟨w3, hst, k53, hg3⟩ := storeRf (A' := D) (n' := n - 1) (c' := c - 1) (bad' := false) (Row.new w2 34 (rfV none 0 0 false)))
      | (with_reducible refine wpList_alloc rfl 34 rfl (allocRf _) ?_)
      | (refine wpList_store rfl 34 (.tmp 5) (.tmp 11) rfl (.pointer (some ⟨w2.heap.size, 0, none⟩)) (.agg (rfV D (n - 1) (c - 1) false)) rfl rfl hst ?_)
      | fail)
    obtain ⟨q5, hq5⟩ : ∃ q, q = w2.heap.size := ⟨_, rfl⟩
    rw [← hq5] at k53 hg3 ⊢
    have hL23 : Later w2 w3 := ((Later.refl w2).alloc (.cells (rfV none 0 0 false) 34)).grown hg3 (by simp) (fun j e => by cases e; omega)
    have hx3 := hL23.cell hx2
    have k13 := k1.later (hL2.step hL23)
    have k23 := k2.later (hL2.step hL23)
    have hb3 := hb.step (hL2.step hL23)
    have hlt5 := k23.lt
    have hne5 : q5 ≠ q + 1 := by have := (k2.later hL2).lt; omega
    have c13 : w3.cell? ⟨q, 0, none⟩ = some (.slice (some ⟨b, o, none⟩) n c) := (k13.cell 0).trans rfl
    have hmv : RefV (some ⟨b, o, none⟩) (x :: r) (.agg (rfV D (n - 1) (c - 1) false)) (x :: r).tail false := ⟨D, c - 1, by have := HN.out; simp at this; rw [show (x :: r).tail.length = n - 1 by simp; omega], by have := HN.out; simp at this ⊢; omega, by omega, hD⟩
    clear hst hld
    by_cases h1 : x.toNat ≤ 1
    · have hd1 : decide ((1 : Int) < (x.toNat : Int)) = false := decide_eq_false (by omega)
      have e1 : Wr.truthR (x :: r) false = (((x :: r).tail, false), Wr.truthAt (x :: r), 0) := by simp [Wr.truthR, Wr.truthOk, h1]
      rw [e1] at HΦ
      have heq : ((x.toNat : Int) == 1) = Wr.truthAt (x :: r) := by simp [Wr.truthAt]; rw [Bool.eq_iff_iff]; simp; omega
      have HEQ := Lib.hid heq
      have HMV := Lib.hid hmv
      clear heq hmv e1
      go_upto_region 4 with fail
      refine (wpIn_wide (n := 0)).1 ?_
      refine wpIn_region_pivot wide_wide 5 [.agg (rfV D (n - 1) (c - 1) false), .slice (some ⟨b, o, none⟩) 1 c, .pointer (some ⟨b, o, none⟩), byteV x, .bool (Wr.truthAt (x :: r)), undef, .bool (Wr.truthAt (x :: r))] (fun W => Later w3 W) (fun y W => Later w W ∧ Row W q5 34 (rfV D (n - 1) (c - 1) false) ∧ Row W (q + 1) 34 (rfV D (n - 1) (c - 1) false) ∧ W.cell? ⟨b, o, none⟩ = some (byteV x)) (fun W W' h k => k.step h) (fun y W W' h k => ⟨k.1.step h, k.2.1.later h, k.2.2.1.later h, h.cell k.2.2.2⟩) (Later.refl _) (by kernel_rfl) (by kernel_rfl) (by kernel_rfl) (by kernel_rfl) (by kernel_rfl) (by kernel_rfl) rfl (by kernel_rfl) (by kernel_rfl) ⟨?_, ?_, ?_, ?_, ?_, ?_, ?_, trivial⟩ ?_
      · exact fun ac W dd xx he => stepOk_want rfl (op_load rfl (he.keep (.tmp 5) (by kernel_rfl)) (loadRf (he.both (C := fun W => Row W q5 34 (rfV D (n - 1) (c - 1) false)) (fun W h => k53.later h) (fun y W h => h.2.1))) rfl)
      · exact fun ac W dd xx he => stepOk_want rfl (op_move rfl (he.keep (.tmp 6) (by kernel_rfl)))
      · exact fun ac W dd xx he => stepOk_want rfl (op_idx rfl (show ac.eval (.tmp 26) = .slice (some ⟨b, o, none⟩) 1 c from he.val 1 26 (by kernel_rfl) rfl rfl) rfl (idxB0 W) rfl)
      · exact fun ac W dd xx he => stepOk_want rfl (op_load rfl (show ac.eval (.tmp 27) = .pointer (some ⟨b, o, none⟩) from he.val 2 27 (by kernel_rfl) rfl rfl) (loadByte (he.both (C := fun W => W.cell? ⟨b, o, none⟩ = some (byteV x)) (fun W h => h.cell hx3) (fun y W h => h.2.2.2))) rfl)
      · exact fun ac W dd xx he => stepOk_want rfl (op_binOp rfl (show ac.eval (.tmp 28) = byteV x from he.val 3 28 (by kernel_rfl) rfl rfl) rfl eqgI (by rw [← HEQ.out]; exact eqlI _ _ _ _) rfl)
      · intro ac W he hA; refine ⟨rfl, ?_⟩; have e2 := (he.keep (.tmp 2) (by kernel_rfl)); have e25 := (show ac.eval (.tmp 25) = .agg (rfV D (n - 1) (c - 1) false) from he.val 0 25 (by kernel_rfl) rfl rfl); obtain ⟨W', hst, hrow', hg'⟩ := storeRf (A' := D) (n' := n - 1) (c' := c - 1) (bad' := false) (k23.later hA); exact op_storeK rfl e2 e25 hst ⟨_, rfl, (hb3.step hA).grown hg' (hb3.step hA).size (fun j e => by cases e; have := HQ.out; omega), (k53.later hA).grown hg' (by intro e; exact hne5 (Option.some.inj e)), hrow', grown_cell hg' (fun e => rf_no_byte k23 hx3 e) (hA.cell hx3)⟩
      · exact fun ac W dd xx he => stepOk_want rfl (op_assign rfl (show ac.eval (.tmp 29) = .bool (Wr.truthAt (x :: r)) from he.val 4 29 (by kernel_rfl) rfl rfl))
      · intro xs W y hB hx hk hg
        refine last_assign (vx := .int .i64 0) rfl rfl ?_
        have e6 := hx 6 (by decide)
        obtain ⟨hB1, _, hB3, _⟩ := hB
        clear hx hk hg
        simp only [initL, lastL, putL, Nat.reduceAdd, Act.put, List.setIfInBounds_toArray, List.set_cons_succ, List.set_cons_zero]
        rw [e6]
        go_wp2_with fail
        exact bodyPost_ret (results_cell_tmp2 rfl _ _ (q + 1) 34 (rfV D (n - 1) (c - 1) false) (0, 0) _ (.bool (Wr.truthAt (x :: r))) (.int .i64 0) rfl rfl rfl hB3 Try.underlying34 rfl infoRf) rfl (HΦ.out _ _ ⟨hB1, _, rfl, HMV.out⟩)
    · have hd1 : decide ((1 : Int) < (x.toNat : Int)) = true := decide_eq_true (by omega)
      have e1 : Wr.truthR (x :: r) false = ((x :: r, true), false, 140) := by simp [Wr.truthR, Wr.truthOk, h1]
      rw [e1] at HΦ
      obtain ⟨w4, hst, k24, hg4⟩ := storeRf (A' := some ⟨b, o, none⟩) (n' := n) (c' := c) (bad' := true) k23
      have HMV := Lib.hid hmv
      clear hmv e1
      go_wp2_with (first
        | (refine wpList_store rfl 34 (.tmp 2) (.tmp 24) rfl (.pointer (some ⟨q + 1, 0, none⟩)) (.agg (rfV (some ⟨b, o, none⟩) n c true)) rfl rfl hst ?_)
        | fail)
      exact bodyPost_ret (results_cell_tmp2 rfl _ _ (q + 1) 34 (rfV (some ⟨b, o, none⟩) n c true) (0, 0) _ (.bool false) (.int .i64 140) rfl rfl rfl k24 Try.underlying34 rfl infoRf) rfl (HΦ.out _ _ ⟨hb3.grown hg4 hb3.size (fun j e => by cases e; have := HQ.out; omega), _, rfl, some ⟨b, o, none⟩, c, by rw [← HN.out], by rw [← HN.out] at hc; exact hc, by omega, fun _ h => h⟩)
  · have e1 : Wr.truthR l bad = ((l, true), false, 140) := by
      unfold Wr.truthR
      cases bad
      · have h0 : l = [] := List.eq_nil_of_length_eq_zero (by rw [HN.out]; have : ¬ 1 ≤ n := fun h => hok ⟨rfl, h⟩; omega)
        subst h0
        rfl
      · rfl
    rw [e1] at HΦ
    clear e1
    go_upto_region 2 with (first
      | (refine wpList_load rfl 34 (.tmp 1) rfl (.pointer (some ⟨q, 0, none⟩)) rfl hld ?_)
      | (go_at_call 69; refine htk.mono ?_; clear htk; rintro e w2 ⟨hL2, ⟨h1, h2, _⟩ | ⟨_, rfl⟩⟩; exact absurd ⟨h1, h2⟩ hok; obtain ⟨w3, hst, k53, hg3⟩ := storeRf (A' := A) (n' := n) (c' := c) (bad' := true) (Row.new w2 34 (rfV none 0 0 false)))
      | (with_reducible refine wpList_alloc rfl 34 rfl (allocRf _) ?_)
      | (refine wpList_store rfl 34 (.tmp 5) (.tmp 11) rfl (.pointer (some ⟨w2.heap.size, 0, none⟩)) (.agg (rfV A n c true)) rfl rfl hst ?_)
      | fail)
    have hL23 : Later w2 w3 := ((Later.refl w2).alloc (.cells (rfV none 0 0 false) 34)).grown hg3 (by simp) (fun j e => by cases e; omega)
    have k23 := k2.later (hL2.step hL23)
    have hb3 := hb.step (hL2.step hL23)
    have c13 : w3.cell? ⟨q, 0, none⟩ = some (.slice A n c) := ((k1.later (hL2.step hL23)).cell 0).trans rfl
    obtain ⟨w4, hst4, k24, hg4⟩ := storeRf (A' := A) (n' := n) (c' := c) (bad' := true) k23
    clear hst hg3 hL23
    go_wp2_with (first
      | (refine wpList_store rfl 34 (.tmp 2) (.tmp 24) rfl (.pointer (some ⟨q + 1, 0, none⟩)) (.agg (rfV A n c true)) rfl rfl hst4 ?_)
      | fail)
    exact bodyPost_ret (results_cell_tmp2 rfl _ _ (q + 1) 34 (rfV A n c true) (0, 0) _ (.bool false) (.int .i64 140) rfl rfl rfl k24 Try.underlying34 rfl infoRf) rfl (HΦ.out _ _ ⟨hb3.grown hg4 hb3.size (fun j e => by cases e; have := HQ.out; omega), _, rfl, A, c, by rw [← HN.out], by rw [← HN.out] at hc; exact hc, by omega, fun _ h => h⟩)
end Go.Proofs.Ytmipaacobioakaa
