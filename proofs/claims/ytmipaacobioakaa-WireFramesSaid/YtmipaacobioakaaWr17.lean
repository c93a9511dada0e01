/- Walks: the document's reader takes bytes, a number. -/
import Derived.Test.YtmipaacobioakaaWr16
set_option linter.unusedVariables false
set_option linter.unusedSimpArgs false
namespace Go.Proofs.Ytmipaacobioakaa
open Go.RowKit
section
variable {P : Program} {Q : Exit → Act → World → Prop} {o : Oper} {a : Act} {W : World} {R : Value → World → Prop}
theorem op_buildR {t : TypeId} {parts : Array (Nat × Operand)} {vs : Array (Nat × Value)} {v : Value} (ho : o.op = .build t parts) (hp : (parts.map fun (i, x) => (i, a.eval x)) = vs) (hr : (Instr.build t vs).run P W = .ok v W) (h : R v W) : o.wp P a W (fun a' W' => ∃ v, a' = a.put o.dst v ∧ Later W W' ∧ R v W') Q := by
  refine op_value (v := v) (W' := W) ?_ (Later.refl _) h
  unfold execOp
  simp only [ho, hp, hr, Sem.run_bind, Sem.run_pure, Result.andThen_ok]
theorem op_boxR {t : TypeId} {x : Operand} {vx v : Value} {W' : World} (ho : o.op = .box t x) (hx : a.eval x = vx) (hr : (Instr.box t vx).run P W = .ok v W') (hL : Later W W') (h : R v W') : o.wp P a W (fun a' W' => ∃ v, a' = a.put o.dst v ∧ Later W W' ∧ R v W') Q := by
  refine op_value (v := v) (W' := W') ?_ hL h
  unfold execOp
  simp only [ho, hx, hr, Sem.run_bind, Sem.run_pure, Result.andThen_ok]
theorem last_assign {x : Operand} {vx : Value} (ho : o.op = .assign x) (hx : a.eval x = vx) (h : Q .normal (a.put o.dst vx) W) : LastOk P o a W Q :=
  ⟨op_assignK (K := fun a' W' => Q .normal a' W') ho (by rw [hx]; exact h)⟩
end
theorem Calls.post {P : Program} {f : FuncId} {args : Array Value} {w : World} {R : Ending → World → Prop} (h : ∀ Φ : Ending → World → Prop, Hid (∀ e w', R e w' → Φ e w') → Calls P f args w Φ) : Calls P f args w R := h R (Lib.hid fun _ _ h => h)
abbrev rfV (A : Option Addr) (n c : Nat) (bad : Bool) : Array Value := #[.slice A n c, .bool bad]
theorem infoRf : (Try.prog.info? 34).map (·.size) = some 2 := by kernel_rfl
theorem boxRf (A : Option Addr) (n c : Nat) (bad : Bool) (w : World) : (Instr.box 34 (.agg (rfV A n c bad))).run Try.prog w = .ok (.pointer (some ⟨w.heap.size, 0, none⟩)) (w.alloc (.cells (rfV A n c bad) 34)) := run_box_row w _ _ infoRf
theorem allocRf (w : World) : (Instr.alloc 34 true (.tuple #[])).run Try.prog w = .ok (.pointer (some ⟨w.heap.size, 0, none⟩)) (w.alloc (.cells (rfV none 0 0 false) 34)) := by kernel_rfl
theorem buildRf (A : Option Addr) (n c : Nat) (bad : Bool) (w : World) : (Instr.build 34 #[(0, .slice A n c), (1, .bool bad)]).run Try.prog w = .ok (.agg (rfV A n c bad)) w := by kernel_rfl
theorem loadRf {w : World} {g : Nat} {A : Option Addr} {n c : Nat} {bad : Bool} (hr : Row w g 34 (rfV A n c bad)) : (Instr.loadAt 34 (.pointer (some ⟨g, 0, none⟩))).run Try.prog w = .ok (.agg (rfV A n c bad)) w := run_load_row hr Try.underlying34 rfl infoRf
theorem storeRf {w : World} {g : Nat} {A A' : Option Addr} {n c n' c' : Nat} {bad bad' : Bool} (hr : Row w g 34 (rfV A n c bad)) : ∃ w', (Instr.storeAt 34 (.pointer (some ⟨g, 0, none⟩)) (.agg (rfV A' n' c' bad'))).run Try.prog w = .ok () w' ∧ Row w' g 34 (rfV A' n' c' bad') ∧ w.grownBy w' (some g) :=
  ⟨_, run_store_row hr (rfV A' n' c' bad') infoRf (by simp) (by kernel_rfl), row_setCells [.slice A' n' c', .bool bad'] 0 w _ hr, grown_setCells _ _ _⟩
theorem fieldRf0 {g : Nat} (W : World) : (Instr.fieldAt 34 (.pointer (some ⟨g, 0, none⟩)) 0).run Try.prog W = .ok (.pointer (some ⟨g, 0, none⟩)) W := by
  go_simp
theorem results_cell_tmp2 {P : Program} {fn : Func} {p q q2 : Tmp} {ty : TypeId} (h : fn.results = #[.cell p ty, .tmp q, .tmp q2]) (tmps : Array Value) (w : World) (g : Nat) (t : TypeId) (cs : Array Value) (fr : Nat × Nat) (d : TypeDesc) (v v2 : Value)
    (hp : tmps.getD p undef = .pointer (some ⟨g, 0, none⟩)) (hq : tmps.getD q undef = v) (hq2 : tmps.getD q2 undef = v2) (hg : w.heap[g]? = some (.cells cs t fr))
    (hu : P.underlying ty = some d) (hd : (match d with | .struct _ | .array _ _ => true | _ => false) = true) (hi : (P.info? ty).map (·.size) = some cs.size) :
    (results fn tmps).run P w = .ok (.tuple #[.agg cs, v, v2]) w := by
  have hp' : tmps[p]?.getD undef = .pointer (some ⟨g, 0, none⟩) := by simpa using hp
  have hq' : tmps[q]?.getD undef = v := by simpa using hq
  have hq2' : tmps[q2]?.getD undef = v2 := by simpa using hq2
  simp [results, h, hp', hq', hq2', asAddr, run_loadVar_row w g t ty cs fr d hg hu hd hi]
set_option maxRecDepth 100000 in
set_option maxHeartbeats 1000000 in
theorem refTake_any (A : Option Addr) (n c : Nat) (l : List UInt8) (bad : Bool) (k : Nat) (w : World) (hn : l.length = n) (hc : n ≤ c) (hcm : c ≤ 9223372036854775807) (hk : k ≤ 9223372036854775807) :
    Calls Try.prog 69 #[.agg (rfV A n c bad), .int .i64 (k : Int)] w fun e w' => Later w w' ∧ ((bad = false ∧ k ≤ n ∧ ∃ D, e = .returned (.tuple #[.agg (rfV D (n - k) (c - k) false), .slice A k c, .int .i64 0]) ∧ ∀ X, Rd X A l → Rd X D (l.drop k)) ∨ ((bad = true ∨ n < k) ∧ e = .returned (.tuple #[.agg (rfV A n c true), .slice none 0 0, .int .i64 140]))) := by
  have k2 := (Row.new w 34 (rfV A n c bad)).alloc (.cells (rfV none 0 0 false) 34)
  have k4 := Row.new (w.alloc (.cells (rfV A n c bad) 34)) 34 (rfV none 0 0 false)
  have hb := (((Later.refl w).alloc (.cells (rfV A n c bad) 34)).alloc (.cells (rfV none 0 0 false) 34))
  refine Calls.post fun Φ HΦ => ?_
  go_enter Try.func69, Try.ntmps69
  go_upto_region 1 with (first
    | (with_reducible refine wpList_alloc rfl 34 rfl (allocRf _) ?_)
    | fail)
  simp only [World.size_alloc] at k4 ⊢
  obtain ⟨q, hq⟩ : ∃ q, q = w.heap.size := ⟨_, rfl⟩
  rw [← hq] at k2 k4 ⊢
  generalize (w.alloc (.cells (rfV A n c bad) 34)).alloc (.cells (rfV none 0 0 false) 34) = w1 at *
  have HQ := Lib.hid hq
  clear hq
  have c20 : w1.cell? ⟨q, 0, none⟩ = some (.slice A n c) := (k2.cell 0).trans rfl
  have c21 : w1.cell? ⟨q, 1, none⟩ = some (.bool bad) := (k2.cell 1).trans rfl
  by_cases hok : bad = false ∧ k ≤ n
  · obtain ⟨rfl, hkn⟩ := hok
    have hd : decide ((n : Int) < (k : Int)) = false := decide_eq_false (by omega)
    obtain ⟨D, hs1, hD⟩ := run_slice_from (P := Try.prog) (t := 22) (U := 5) (A := A) (n := n) (ca := c) (k := k) Try.underlying22 byteInfo hkn hc
    have hs2 : ∀ w : World, (Instr.sliceAt 22 (.slice A n c) none (some (.int .i64 (k : Int))) none).run Try.prog w = .ok (.slice A k c) w := run_slice_upto (k := k) Try.underlying22 byteInfo (by omega)
    go_upto_region 3 with fail
    refine (wpIn_wide (n := 0)).1 ?_
    refine wpIn_region_pivot wide_wide 9 [.pointer (some ⟨q, 0, none⟩), .slice A n c, .int .i64 (k : Int), .slice D (n - k) (c - k), .agg (rfV D (n - k) (c - k) false), .pointer (some ⟨q, 0, none⟩), .slice A n c, .int .i64 (k : Int), .slice A k c, undef, .slice A k c] (fun W => Later w1 W) (fun y W => Later w W ∧ Row W q 34 (rfV A n c false) ∧ Row W (q + 1) 34 (rfV D (n - k) (c - k) false)) (fun W W' h k => k.step h) (fun y W W' h k => ⟨k.1.step h, k.2.1.later h, k.2.2.later h⟩) (Later.refl _) (by kernel_rfl) (by kernel_rfl) (by kernel_rfl) (by kernel_rfl) (by kernel_rfl) (by kernel_rfl) rfl (by kernel_rfl) (by kernel_rfl) ⟨?_, ?_, ?_, ?_, ?_, ?_, ?_, ?_, ?_, ?_, ?_, trivial⟩ ?_
    · exact fun ac W d x he => stepOk_want rfl (op_fieldAddr rfl (he.keep (.tmp 2) (by kernel_rfl)) (fieldRf0 W) rfl)
    · exact fun ac W d x he => stepOk_want rfl (op_load rfl (show ac.eval (.tmp 19) = .pointer (some ⟨q, 0, none⟩) from he.val 0 19 (by kernel_rfl) rfl rfl) (loadSl ((he.both (C := fun W => Row W q 34 (rfV A n c false)) (fun W h => k2.later h) (fun y W h => h.2.1)).cell 0 |>.trans rfl)) rfl)
    · exact fun ac W d x he => stepOk_want rfl (op_move rfl (he.keep (.tmp 1) (by kernel_rfl)))
    · exact fun ac W d x he => stepOk_want rfl (op_slice (W' := W) rfl (show ac.eval (.tmp 20) = .slice A n c from he.val 1 20 (by kernel_rfl) rfl rfl) (congrArg some (show ac.eval (.tmp 21) = .int .i64 (k : Int) from he.val 2 21 (by kernel_rfl) rfl rfl)) (rfl : _ = none) rfl (hs1 W) rfl)
    · exact fun ac W d x he => stepOk_want rfl (op_buildR rfl (by simp only [List.map_toArray, List.map_cons, List.map_nil, (show ac.eval (.tmp 22) = .slice D (n - k) (c - k) from he.val 3 22 (by kernel_rfl) rfl rfl)]; rfl) (buildRf D (n - k) (c - k) false W) rfl)
    · exact fun ac W d x he => stepOk_want rfl (op_fieldAddr rfl (he.keep (.tmp 2) (by kernel_rfl)) (fieldRf0 W) rfl)
    · exact fun ac W d x he => stepOk_want rfl (op_load rfl (show ac.eval (.tmp 24) = .pointer (some ⟨q, 0, none⟩) from he.val 5 24 (by kernel_rfl) rfl rfl) (loadSl ((he.both (C := fun W => Row W q 34 (rfV A n c false)) (fun W h => k2.later h) (fun y W h => h.2.1)).cell 0 |>.trans rfl)) rfl)
    · exact fun ac W d x he => stepOk_want rfl (op_move rfl (he.keep (.tmp 1) (by kernel_rfl)))
    · exact fun ac W d x he => stepOk_want rfl (op_slice (W' := W) rfl (show ac.eval (.tmp 25) = .slice A n c from he.val 6 25 (by kernel_rfl) rfl rfl) (rfl : _ = none) (congrArg some (show ac.eval (.tmp 26) = .int .i64 (k : Int) from he.val 7 26 (by kernel_rfl) rfl rfl)) rfl (hs2 W) rfl)
    · intro ac W he hA; refine ⟨rfl, ?_⟩; have e4 := (he.keep (.tmp 4) (by kernel_rfl)); have e23 := (show ac.eval (.tmp 23) = .agg (rfV D (n - k) (c - k) false) from he.val 4 23 (by kernel_rfl) rfl rfl); obtain ⟨W', hst, hrow', hg'⟩ := storeRf (A' := D) (n' := n - k) (c' := c - k) (bad' := false) (k4.later hA); exact op_storeK rfl e4 e23 hst ⟨_, rfl, (hb.step hA).grown hg' (hb.step hA).size (fun j e => by cases e; have := HQ.out; omega), (k2.later hA).grown hg' (by intro e; have := Option.some.inj e; omega), hrow'⟩
    · exact fun ac W d x he => stepOk_want rfl (op_assign rfl (show ac.eval (.tmp 27) = .slice A k c from he.val 8 27 (by kernel_rfl) rfl rfl))
    · intro xs W y hB hx hk hg
      refine last_assign (vx := .int .i64 0) rfl rfl ?_
      have e10 := hx 10 (by decide)
      have hB2 := hB
      clear hx hk hg hB
      simp only [initL, lastL, putL, Nat.reduceAdd, Act.put, List.setIfInBounds_toArray, List.set_cons_succ, List.set_cons_zero]
      rw [e10]
      go_wp2_with fail
      exact bodyPost_ret (results_cell_tmp2 rfl _ _ (q + 1) 34 (rfV D (n - k) (c - k) false) (0, 0) _ (.slice A k c) (.int .i64 0) rfl rfl rfl hB2.2.2 Try.underlying34 rfl infoRf) rfl (HΦ.out _ _ ⟨hB2.1, .inl ⟨by first | rfl | trivial, hkn, D, rfl, fun X hX => hD X l hn hX⟩⟩)
  · have hor : bad = true ∨ n < k := by
      cases bad
      · exact .inr (by have : ¬ k ≤ n := fun h => hok ⟨rfl, h⟩; omega)
      · exact .inl rfl
    have hd : bad = false → decide ((n : Int) < (k : Int)) = true := fun h => decide_eq_true (by rcases hor with h2 | h2; · { rw [h] at h2; cases h2 }; · omega)
    obtain ⟨w2, hst, k42, hg2⟩ := storeRf (A' := A) (n' := n) (c' := c) (bad' := true) k4
    have hb2 : Later w w2 := hb.grown hg2 hb.size (fun j e => by cases e; have := HQ.out; omega)
    cases bad with
    | true =>
      go_wp2_with (first
        | (refine wpList_store rfl 34 (.tmp 4) (.tmp 18) rfl (.pointer (some ⟨q + 1, 0, none⟩)) (.agg (rfV A n c true)) rfl rfl hst ?_)
        | fail)
      exact bodyPost_ret (results_cell_tmp2 rfl _ _ (q + 1) 34 (rfV A n c true) (0, 0) _ (.slice none 0 0) (.int .i64 140) rfl rfl rfl k42 Try.underlying34 rfl infoRf) rfl (HΦ.out _ _ ⟨hb2, .inr ⟨.inl (by first | rfl | trivial), rfl⟩⟩)
    | false =>
      have hd1 : decide ((n : Int) < (k : Int)) = true := hd rfl
      have hkn : n < k := hor.resolve_left (fun h => by cases h)
      clear hd hok
      go_wp2_with (first
        | (refine wpList_store rfl 34 (.tmp 4) (.tmp 18) rfl (.pointer (some ⟨q + 1, 0, none⟩)) (.agg (rfV A n c true)) rfl rfl hst ?_)
        | fail)
      exact bodyPost_ret (results_cell_tmp2 rfl _ _ (q + 1) 34 (rfV A n c true) (0, 0) _ (.slice none 0 0) (.int .i64 140) rfl rfl rfl k42 Try.underlying34 rfl infoRf) rfl (HΦ.out _ _ ⟨hb2, .inr ⟨hor, rfl⟩⟩)
/-- What the document's reader hands back. -/
def RefV (A : Option Addr) (l : List UInt8) (v : Value) (l' : List UInt8) (bad : Bool) : Prop := ∃ D c, v = .agg (rfV D l'.length c bad) ∧ l'.length ≤ c ∧ c ≤ 9223372036854775807 ∧ ∀ X, Rd X A l → Rd X D l'
set_option maxRecDepth 100000 in
set_option maxHeartbeats 1000000 in
theorem refNumberR_any (A : Option Addr) (n c : Nat) (l : List UInt8) (bad : Bool) (most : Int) (w : World) (hn : l.length = n) (hc : n ≤ c) (hcm : c ≤ 9223372036854775807) (hnm : n ≤ 9223372036854775000) (hr : Rd w A l) :
    Calls Try.prog 42 #[.agg (rfV A n c bad), .int .i64 most] w fun e w' => Later w w' ∧ ∃ v, e = .returned (.tuple #[v, .int .i64 (Wr.numR l bad most).2.1, .int .i64 (Wr.numR l bad most).2.2]) ∧ RefV A l v (Wr.numR l bad most).1.1 (Wr.numR l bad most).1.2 := by
  have k2 := (Row.new w 34 (rfV A n c bad)).alloc (.cells (rfV none 0 0 false) 34)
  have k4 := Row.new (w.alloc (.cells (rfV A n c bad) 34)) 34 (rfV none 0 0 false)
  have hb := (((Later.refl w).alloc (.cells (rfV A n c bad) 34)).alloc (.cells (rfV none 0 0 false) 34))
  refine Calls.post fun Φ HΦ => ?_
  go_enter Try.func42, Try.ntmps42
  go_upto_region 1 with (first
    | (with_reducible refine wpList_alloc rfl 34 rfl (allocRf _) ?_)
    | fail)
  simp only [World.size_alloc] at k4 ⊢
  obtain ⟨q, hq⟩ : ∃ q, q = w.heap.size := ⟨_, rfl⟩
  rw [← hq] at k2 k4 ⊢
  generalize (w.alloc (.cells (rfV A n c bad) 34)).alloc (.cells (rfV none 0 0 false) 34) = w1 at *
  have HQ := Lib.hid hq
  have HN := Lib.hid hn
  clear hq hn
  have c20 : w1.cell? ⟨q, 0, none⟩ = some (.slice A n c) := (k2.cell 0).trans rfl
  have c21 : w1.cell? ⟨q, 1, none⟩ = some (.bool bad) := (k2.cell 1).trans rfl
  have hld := loadRf k2
  have hfin : ∀ w2 w3 (A' : Option Addr) (n' c' : Nat) (b' : Bool), Later w1 w2 → w2.grownBy w3 (some (q + 1)) → Later w w3 := fun w2 w3 A' n' c' b' h h2 => (hb.step h).grown h2 (hb.step h).size (fun j e => by cases e; have := HQ.out; omega)
  cases bad with
  | true =>
    obtain ⟨w2, hst, k42, hg2⟩ := storeRf (A' := A) (n' := n) (c' := c) (bad' := true) k4
    go_wp2_with (first
      | (refine wpList_load rfl 34 (.tmp 2) rfl (.pointer (some ⟨q, 0, none⟩)) rfl hld ?_)
      | (refine wpList_store rfl 34 (.tmp 4) (.tmp 11) rfl (.pointer (some ⟨q + 1, 0, none⟩)) (.agg (rfV A n c true)) rfl rfl hst ?_)
      | fail)
    exact bodyPost_ret (results_cell_tmp2 rfl _ _ (q + 1) 34 (rfV A n c true) (0, 0) _ (.int .i64 0) (.int .i64 140) rfl rfl rfl k42 Try.underlying34 rfl infoRf) rfl (HΦ.out _ _ ⟨hfin _ _ A n c true (Later.refl _) hg2, _, rfl, A, c, by rw [← HN.out]; rfl, by rw [← HN.out] at hc; exact hc, by omega, fun _ h => h⟩)
  | false =>
    by_cases hm0 : most < 0
    · have hd : decide (most < 0) = true := decide_eq_true hm0
      have e1 : Wr.numR l false most = ((l, false), 0, 2) := by simp [Wr.numR, hm0]
      rw [e1] at HΦ
      obtain ⟨w2, hst, k42, hg2⟩ := storeRf (A' := A) (n' := n) (c' := c) (bad' := false) k4
      go_wp2_with (first
        | (refine wpList_load rfl 34 (.tmp 2) rfl (.pointer (some ⟨q, 0, none⟩)) rfl hld ?_)
        | (refine wpList_store rfl 34 (.tmp 4) (.tmp 14) rfl (.pointer (some ⟨q + 1, 0, none⟩)) (.agg (rfV A n c false)) rfl rfl hst ?_)
        | fail)
      exact bodyPost_ret (results_cell_tmp2 rfl _ _ (q + 1) 34 (rfV A n c false) (0, 0) _ (.int .i64 0) (.int .i64 2) rfl rfl rfl k42 Try.underlying34 rfl infoRf) rfl (HΦ.out _ _ ⟨hfin _ _ A n c true (Later.refl _) hg2, _, rfl, A, c, by rw [← HN.out], by rw [← HN.out] at hc; exact hc, by omega, fun _ h => h⟩)
    have hd : decide (most < 0) = false := decide_eq_false hm0
    have hfi := refFirst_any A n c l w1 HN.out (by omega) (hr.later hb)
    obtain ⟨hf1, hf2, hf3⟩ := Wr.first_le l
    by_cases hmay : Wr.may l most
    · have e1 : Wr.numR l false most = ((l.drop (Wr.first l).2.toNat, false), ((Wr.first l).1 : Int), 0) := by simp [Wr.numR, hm0, hmay]
      rw [e1] at HΦ
      have hm2 := hmay
      unfold Wr.may at hm2
      clear e1 hmay
      generalize Wr.first l = F at *
      obtain ⟨f, s⟩ := F
      obtain ⟨hk, hle⟩ := hm2
      obtain ⟨k, rfl⟩ : ∃ k : Nat, s = k := ⟨s.toNat, by have : 0 < s := hk; omega⟩
      replace hf1 : (k : Int) ≤ l.length := hf1
      replace hk : (0 : Int) < k := hk
      replace hle : (f : Int) ≤ most := hle
      have hkn : k ≤ n := by rw [← HN.out]; omega
      simp only [Int.toNat_natCast] at HΦ
      obtain ⟨D, hs1, hD⟩ := run_slice_from (P := Try.prog) (t := 22) (U := 5) (A := A) (n := n) (ca := c) (k := k) Try.underlying22 byteInfo hkn hc
      have hd2 : decide ((k : Int) ≤ 0) = false := decide_eq_false (by omega)
      have hd3 : decide (most < (f : Int)) = false := decide_eq_false (by omega)
      go_wp2_with (first
        | (go_at_call 62; refine hfi.mono ?_; clear hfi; rintro e w2 ⟨rfl, hL2⟩; have c202 := hL2.cell c20; obtain ⟨w3, hst, k43, hg3⟩ := storeRf (A' := D) (n' := n - k) (c' := c - k) (bad' := false) (k4.later hL2))
        | (refine wpList_store rfl 34 (.tmp 4) (.tmp 35) rfl (.pointer (some ⟨q + 1, 0, none⟩)) (.agg (rfV D (n - k) (c - k) false)) rfl rfl hst ?_)
        | fail)
      exact bodyPost_ret (results_cell_tmp2 rfl _ _ (q + 1) 34 (rfV D (n - k) (c - k) false) (0, 0) _ (.int .i64 (f : Int)) (.int .i64 0) rfl rfl rfl k43 Try.underlying34 rfl infoRf) rfl (HΦ.out _ _ ⟨hfin _ _ A n c true hL2 hg3, _, rfl, D, c - k, by rw [List.length_drop, HN.out], by rw [List.length_drop, HN.out]; omega, by omega, fun X h => hD X l HN.out h⟩)
    · have e1 : Wr.numR l false most = ((l, true), 0, 140) := by simp [Wr.numR, hm0, hmay]
      rw [e1] at HΦ
      have hm2 := hmay
      unfold Wr.may at hm2
      clear e1 hmay
      generalize Wr.first l = F at *
      obtain ⟨f, s⟩ := F
      by_cases hk : (0 : Int) < s
      · have hle : ¬ (f : Int) ≤ most := fun h => hm2 ⟨hk, h⟩
        have hd2 : decide (s ≤ 0) = false := decide_eq_false (by omega)
        have hd3 : decide (most < (f : Int)) = true := decide_eq_true (by omega)
        go_wp2_with (first
          | (go_at_call 62; refine hfi.mono ?_; clear hfi; rintro e w2 ⟨rfl, hL2⟩; have c202 := hL2.cell c20; obtain ⟨w3, hst, k43, hg3⟩ := storeRf (A' := A) (n' := n) (c' := c) (bad' := true) (k4.later hL2))
          | (refine wpList_store rfl 34 (.tmp 4) (.tmp 30) rfl (.pointer (some ⟨q + 1, 0, none⟩)) (.agg (rfV A n c true)) rfl rfl hst ?_)
          | fail)
        exact bodyPost_ret (results_cell_tmp2 rfl _ _ (q + 1) 34 (rfV A n c true) (0, 0) _ (.int .i64 0) (.int .i64 140) rfl rfl rfl k43 Try.underlying34 rfl infoRf) rfl (HΦ.out _ _ ⟨hfin _ _ A n c true hL2 hg3, _, rfl, A, c, by rw [← HN.out], by rw [← HN.out] at hc; exact hc, by omega, fun _ h => h⟩)
      · have hd2 : decide (s ≤ 0) = true := decide_eq_true (by omega)
        go_wp2_with (first
          | (go_at_call 62; refine hfi.mono ?_; clear hfi; rintro e w2 ⟨rfl, hL2⟩; have c202 := hL2.cell c20; obtain ⟨w3, hst, k43, hg3⟩ := storeRf (A' := A) (n' := n) (c' := c) (bad' := true) (k4.later hL2))
          | (refine wpList_store rfl 34 (.tmp 4) (.tmp 30) rfl (.pointer (some ⟨q + 1, 0, none⟩)) (.agg (rfV A n c true)) rfl rfl hst ?_)
          | fail)
        exact bodyPost_ret (results_cell_tmp2 rfl _ _ (q + 1) 34 (rfV A n c true) (0, 0) _ (.int .i64 0) (.int .i64 140) rfl rfl rfl k43 Try.underlying34 rfl infoRf) rfl (HΦ.out _ _ ⟨hfin _ _ A n c true hL2 hg3, _, rfl, A, c, by rw [← HN.out], by rw [← HN.out] at hc; exact hc, by omega, fun _ h => h⟩)
end Go.Proofs.Ytmipaacobioakaa
