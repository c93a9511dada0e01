/- Walks: the document's reader takes a hash, a text. -/
import Derived.Test.YtmipaacobioakaaWr18
set_option linter.unusedVariables false
set_option linter.unusedSimpArgs false
namespace Go.Proofs.Ytmipaacobioakaa
open Go.RowKit
section
variable {P : Program} {ops : Array Oper} {rest : List Oper} {o : Oper} {a : Act} {w : World} {Q : Exit → Act → World → Prop}
theorem wpList_slice0 (hgd : o.guard = none) (T : TypeId) (x : Operand) (ho : o.op = .slice T x none none none) (vx : Value) (hx : a.eval x = vx) {v : Value} {w' : World} (hr : (Instr.sliceAt T vx none none none).run P w = .ok v w')
    (h : wpList P ops Q rest (a.put o.dst v) w') : wpList P ops Q (o :: rest) a w :=
  wpList_plain hgd fun _ hK => by
    unfold Oper.wp execOp
    simp only [ho, Sem.run_bind, Sem.run_pure, Result.andThen_ok, Option.map_none, hx, hr]
    exact hK _ _ h
theorem wpList_build (hgd : o.guard = none) (T : TypeId) (parts : Array (Nat × Operand)) (ho : o.op = .build T parts) (vs : Array (Nat × Value)) (hp : (parts.map fun (i, x) => (i, a.eval x)) = vs) {v : Value} {w' : World} (hr : (Instr.build T vs).run P w = .ok v w')
    (h : wpList P ops Q rest (a.put o.dst v) w') : wpList P ops Q (o :: rest) a w :=
  wpList_plain hgd fun _ hK => by
    unfold Oper.wp execOp
    simp only [ho, hp, Sem.run_bind, Sem.run_pure, Result.andThen_ok, hr]
    exact hK _ _ h
theorem results_cells2 {P : Program} {fn : Func} {p r q : Tmp} {ty ty2 : TypeId} (h : fn.results = #[.cell p ty, .cell r ty2, .tmp q]) {tmps : Array Value} {w : World} {g g2 : Nat} {t t2 : TypeId} {cs cs2 : Array Value} {d d2 : TypeDesc} {v : Value}
    (hp : tmps.getD p undef = .pointer (some ⟨g, 0, none⟩)) (hr : tmps.getD r undef = .pointer (some ⟨g2, 0, none⟩)) (hq : tmps.getD q undef = v) (hg : Row w g t cs) (hg2 : Row w g2 t2 cs2)
    (hu : P.underlying ty = some d) (hd : (match d with | .struct _ | .array _ _ => true | _ => false) = true) (hi : (P.info? ty).map (·.size) = some cs.size)
    (hu2 : P.underlying ty2 = some d2) (hd2 : (match d2 with | .struct _ | .array _ _ => true | _ => false) = true) (hi2 : (P.info? ty2).map (·.size) = some cs2.size) :
    (results fn tmps).run P w = .ok (.tuple #[.agg cs, .agg cs2, v]) w := by
  have hp' : tmps[p]?.getD undef = .pointer (some ⟨g, 0, none⟩) := by simpa using hp
  have hr' : tmps[r]?.getD undef = .pointer (some ⟨g2, 0, none⟩) := by simpa using hr
  have hq' : tmps[q]?.getD undef = v := by simpa using hq
  simp [results, h, hp', hr', hq', asAddr, run_loadVar_row w g t ty cs (0, 0) d hg hu hd hi, run_loadVar_row w g2 t2 ty2 cs2 (0, 0) d2 hg2 hu2 hd2 hi2]
end
theorem buildH0 (w : World) : (Instr.build 53 #[]).run Try.prog w = .ok (.agg (hC [])) w := by kernel_rfl
set_option maxRecDepth 100000 in
set_option maxHeartbeats 2000000 in
theorem refHashR_any (A : Option Addr) (n c : Nat) (l : List UInt8) (bad : Bool) (w : World) (hn : l.length = n) (hc : n ≤ c) (hcm : c ≤ 9223372036854775807) (hr : Rd w A l) :
    Calls Try.prog 44 #[.agg (rfV A n c bad)] w fun e w' => Later w w' ∧ ∃ v, e = .returned (.tuple #[v, .agg (hC (Wr.hashR l bad).2.1), .int .i64 (Wr.hashR l bad).2.2]) ∧ RefV A l v (Wr.hashR l bad).1.1 (Wr.hashR l bad).1.2 := by
  have k1 := ((Row.new w 34 (rfV A n c bad)).alloc (.cells (rfV none 0 0 false) 34)).alloc (.cells (hC []) 53)
  have k2 := (Row.new (w.alloc (.cells (rfV A n c bad) 34)) 34 (rfV none 0 0 false)).alloc (.cells (hC []) 53)
  have k3 := Row.new ((w.alloc (.cells (rfV A n c bad) 34)).alloc (.cells (rfV none 0 0 false) 34)) 53 (hC [])
  have hb := ((((Later.refl w).alloc (.cells (rfV A n c bad) 34)).alloc (.cells (rfV none 0 0 false) 34)).alloc (.cells (hC []) 53))
  refine Calls.post fun Φ HΦ => ?_
  go_enter Try.func44, Try.ntmps44
  go_upto_region 1 with (first
    | (with_reducible refine wpList_alloc rfl 34 rfl (allocRf _) ?_)
    | (with_reducible refine wpList_alloc rfl 53 rfl (allocH _) ?_)
    | fail)
  simp only [World.size_alloc] at k2 k3 ⊢
  obtain ⟨q, hq⟩ : ∃ q, q = w.heap.size := ⟨_, rfl⟩
  rw [← hq] at k1 k2 k3 ⊢
  generalize ((w.alloc (.cells (rfV A n c bad) 34)).alloc (.cells (rfV none 0 0 false) 34)).alloc (.cells (hC []) 53) = w1 at *
  have HQ := Lib.hid hq
  have HN := Lib.hid hn
  clear hq hn
  have hld := loadRf k1
  have htk := refTake_any A n c l bad 32 w1 HN.out hc (by omega) (by decide)
  have hr1 := hr.later hb
  by_cases hok : bad = false ∧ 32 ≤ n
  · obtain ⟨hbad, hn1⟩ := hok
    subst hbad
    have e1 : Wr.hashR l false = ((l.drop 32, false), l.take 32, 0) := by simp [Wr.hashR]; rw [HN.out]; exact hn1
    rw [e1] at HΦ
    clear e1
    go_upto_region 2 with (first
      | (refine wpList_load rfl 34 (.tmp 1) rfl (.pointer (some ⟨q, 0, none⟩)) rfl hld ?_)
      | (go_at_call 69; refine htk.mono ?_; clear htk; rintro e w2 ⟨hL2, ⟨_, _, D, rfl, hD⟩ | ⟨h, _⟩⟩; rotate_left; exact absurd h (by simp; omega); obtain ⟨w3, hst, k53, hg3⟩ := storeRf (A' := D) (n' := n - 32) (c' := c - 32) (bad' := false) (Row.new w2 34 (rfV none 0 0 false)))
      | (with_reducible refine wpList_alloc rfl 34 rfl (allocRf _) ?_)
      | (refine wpList_store rfl 34 (.tmp 5) (.tmp 12) rfl (.pointer (some ⟨w2.heap.size, 0, none⟩)) (.agg (rfV D (n - 32) (c - 32) false)) rfl rfl hst ?_)
      | fail)
    obtain ⟨q5, hq5⟩ : ∃ q, q = w2.heap.size := ⟨_, rfl⟩
    have hL23 : Later w2 w3 := ((Later.refl w2).alloc (.cells (rfV none 0 0 false) 34)).grown hg3 (by simp) (fun j e => by cases e; omega)
    have k8 := Row.new w3 53 (hC [])
    have k23 := (k2.later (hL2.step hL23)).alloc (.cells (hC []) 53)
    have k33 := (k3.later (hL2.step hL23)).alloc (.cells (hC []) 53)
    have hb3 := (hb.step (hL2.step hL23)).alloc (.cells (hC []) 53)
    have hr3 := ((hr1.later (hL2.step hL23)).alloc (.cells (hC []) 53))
    have hlt5 := k53.lt
    have hlt3 := (k3.later hL2).lt
    have k53a := k53.alloc (.cells (hC []) 53)
    rw [← hq5] at k53 k53a hg3 hlt5 ⊢
    have hlt33 := (k3.later (hL2.step hL23)).lt
    clear hst hld k1 k53 hL23 hr1 hg3
    have H55 := Lib.hid hq5
    clear hq5
    go_upto_region 5 with (first
      | (with_reducible refine wpList_alloc rfl 53 rfl (allocH _) ?_)
      | fail)
    obtain ⟨q8, hq8⟩ : ∃ q, q = w3.heap.size := ⟨_, rfl⟩
    rw [← hq8] at k8 hlt5 hlt33 ⊢
    generalize w3.alloc (.cells (hC []) 53) = w4 at *
    have H85 := Lib.hid hq8
    clear hq8
    go_upto_region 6 with (first
      | (refine wpList_slice0 rfl 53 (.tmp 8) rfl (.pointer (some ⟨q8, 0, none⟩)) rfl (sliceHash w4) ?_)
      | (refine wpList_copy_rd rfl (.tmp 20) (.tmp 21) 22 22 rfl 5 Try.underlying22 (by kernel_rfl) q8 0 32 32 A 32 c (l.take 32) (by rw [List.length_take, HN.out]; omega) (Rd.take hr3 32) rfl rfl _ _ k8 32 (by decide) (by rw [hC_size _ (by decide)]; decide) ?_; intro w5 k85 hg5)
      | fail)
    rw [show (l.take 32).take 32 = l.take 32 by rw [List.take_take]; rfl, hC_set l (by rw [HN.out]; omega)] at k85
    have hne : ∀ k, k < q8 → some k ≠ some q8 := fun k h e => by have := Option.some.inj e; omega
    have k55 := k53a.grown hg5 (hne q5 hlt5)
    have k25 := k23.grown hg5 (hne (q + 1) (by omega))
    have k35 := k33.grown hg5 (hne (q + 1 + 1) (by omega))
    have hb5 : Later w w5 := hb3.grown hg5 hb3.size (fun j e => by cases e; have := HQ.out; omega)
    have h25 : q5 ≠ q + 1 := by have := H55.out; omega
    have h35 : q5 ≠ q + 1 + 1 := by have := H55.out; omega
    have h28 : q8 ≠ q + 1 := by omega
    have h38 : q8 ≠ q + 1 + 1 := by omega
    have hqw : ∀ j, some (q + 1) = some j → w.heap.size ≤ j := fun j e => by cases e; have := HQ.out; omega
    have hqw2 : ∀ j, some (q + 1 + 1) = some j → w.heap.size ≤ j := fun j e => by cases e; have := HQ.out; omega
    clear k53a k23 k33 hb3 hg5 hne hlt5 hlt3 hlt33 k8
    have hlen : (l.take 32).length = 32 := by rw [List.length_take, HN.out]; omega
    generalize hTT : l.take 32 = T at *
    refine (wpIn_wide (n := 0)).1 ?_
    refine wpIn_region_lastY wide_wide (fun f xs W => Later w W ∧ Row W q5 34 (rfV D (n - 32) (c - 32) false) ∧ Row W q8 53 (hC T) ∧ (f 0 = true → xs 0 = .agg (rfV D (n - 32) (c - 32) false)) ∧ (f 1 = true → xs 1 = .agg (hC T)) ∧ Row W (q + 1) 34 (if f 2 then rfV D (n - 32) (c - 32) false else rfV none 0 0 false) ∧ Row W (q + 1 + 1) 53 (if f 3 then hC T else hC [])) ⟨hb5.drew, k55.drew, k85.drew, by simp, by simp, k25.drew, k35.drew⟩ (by kernel_rfl) (by kernel_rfl) (by kernel_rfl) (by kernel_rfl) (by kernel_rfl) (by kernel_rfl) rfl ⟨?_, ?_, ?_, ?_, trivial⟩ ?_
    · intro a W f xs hI he
      obtain ⟨i0, i1, i2, i3, i4, i5, i6⟩ := hI
      refine stepOkY_later rfl ?_ (op_load (R := fun v W' => v = .agg (rfV D (n - 32) (c - 32) false)) rfl (he.keep (.tmp 5) (by kernel_rfl)) (loadRf i1) rfl)
      rintro v W' hL rfl
      exact ⟨i0.step hL, i1.later hL, i2.later hL, fun _ => rfl, fun h => i4 h, i5.later hL, i6.later hL⟩
    · intro a W f xs hI he
      obtain ⟨i0, i1, i2, i3, i4, i5, i6⟩ := hI
      refine stepOkY_later rfl ?_ (op_load (R := fun v W' => v = .agg (hC T)) rfl (he.keep (.tmp 8) (by kernel_rfl)) (loadH hlen i2) rfl)
      rintro v W' hL rfl
      exact ⟨i0.step hL, i1.later hL, i2.later hL, fun h => i3 h, fun _ => rfl, i5.later hL, i6.later hL⟩
    · intro a W f xs hI he
      obtain ⟨i0, i1, i2, i3, i4, i5, i6⟩ := hI
      have hf2 : f 2 = false := he.todo
      have hf0 : f 0 = true := he.done 0 (by kernel_rfl)
      have e0 : a.eval (.tmp 23) = .agg (rfV D (n - 32) (c - 32) false) := (he.val 0 23 (by kernel_rfl) rfl).trans (i3 hf0)
      rw [hf2] at i5
      obtain ⟨W', hst, hrow', hg'⟩ := storeRf (A' := D) (n' := n - 32) (c' := c - 32) (bad' := false) i5
      exact stepOkY_want rfl (op_storeK rfl (he.keep (.tmp 2) (by kernel_rfl)) e0 hst ⟨_, rfl, i0.grown hg' i0.size hqw, i1.grown hg' (fun e => h25 (Option.some.inj e)), i2.grown hg' (fun e => h28 (Option.some.inj e)), fun h => i3 h, fun h => i4 h, hrow', i6.grown hg' (by simp)⟩)
    · intro a W f xs hI he
      obtain ⟨i0, i1, i2, i3, i4, i5, i6⟩ := hI
      have hf3 : f 3 = false := he.todo
      have hf1 : f 1 = true := he.done 1 (by kernel_rfl)
      have e1 : a.eval (.tmp 24) = .agg (hC T) := (he.val 1 24 (by kernel_rfl) rfl).trans (i4 hf1)
      rw [hf3] at i6
      obtain ⟨W', hst, hrow', hg'⟩ := storeH (a := []) (b := T) (by simp) (by omega) i6
      exact stepOkY_want rfl (op_storeK rfl (he.keep (.tmp 3) (by kernel_rfl)) e1 hst ⟨_, rfl, i0.grown hg' i0.size hqw2, i1.grown hg' (fun e => h35 (Option.some.inj e)), i2.grown hg' (fun e => h38 (Option.some.inj e)), fun h => i3 h, fun h => i4 h, i5.grown hg' (by simp), hrow'⟩)
    · intro f xs W hI hd _ hk hgt
      obtain ⟨i0, i1, i2, i3, i4, i5, i6⟩ := hI
      have f2 := hd 2 (by decide)
      have f3 := hd 3 (by decide)
      rw [f2] at i5
      rw [f3] at i6
      refine last_assign (vx := .int .i64 0) rfl rfl ?_
      clear hk hgt
      simp only [initL, lastL, putL, Nat.reduceAdd, Act.put, List.setIfInBounds_toArray, List.set_cons_succ, List.set_cons_zero]
      go_wp2_with fail
      exact bodyPost_ret (results_cells2 rfl rfl rfl rfl i5 i6 Try.underlying34 rfl infoRf Try.underlying53 rfl (by rw [if_pos trivial, hC_size T (by omega)]; exact infoH)) rfl (HΦ.out _ _ ⟨i0, _, rfl, D, c - 32, by rw [List.length_drop, HN.out]; rfl, by rw [List.length_drop, HN.out]; omega, by omega, fun X h => hD X h⟩)
  · have e1 : Wr.hashR l bad = ((l, true), [], 140) := by
      unfold Wr.hashR
      cases bad
      · have h0 : ¬ 32 ≤ l.length := fun h => hok ⟨rfl, by rw [← HN.out]; exact h⟩
        simp [h0]
      · rfl
    rw [e1] at HΦ
    clear e1
    go_upto_region 3 with (first
      | (refine wpList_load rfl 34 (.tmp 1) rfl (.pointer (some ⟨q, 0, none⟩)) rfl hld ?_)
      | (go_at_call 69; refine htk.mono ?_; clear htk; rintro e w2 ⟨hL2, ⟨h1, h2, _⟩ | ⟨_, rfl⟩⟩; exact absurd ⟨h1, h2⟩ hok; obtain ⟨w3, hst, k53, hg3⟩ := storeRf (A' := A) (n' := n) (c' := c) (bad' := true) (Row.new w2 34 (rfV none 0 0 false)))
      | (with_reducible refine wpList_alloc rfl 34 rfl (allocRf _) ?_)
      | (refine wpList_store rfl 34 (.tmp 5) (.tmp 12) rfl (.pointer (some ⟨w2.heap.size, 0, none⟩)) (.agg (rfV A n c true)) rfl rfl hst ?_)
      | fail)
    have hL23 : Later w2 w3 := ((Later.refl w2).alloc (.cells (rfV none 0 0 false) 34)).grown hg3 (by simp) (fun j e => by cases e; omega)
    have k23 := k2.later (hL2.step hL23)
    have k33 := k3.later (hL2.step hL23)
    have hb3 := hb.step (hL2.step hL23)
    obtain ⟨w4, hst4, k24, hg4⟩ := storeRf (A' := A) (n' := n) (c' := c) (bad' := true) k23
    have k34 := k33.grown hg4 (by simp)
    obtain ⟨w5, hst5, k35, hg5⟩ := storeH (a := []) (b := []) (by simp) (by simp) k34
    have k25 := k24.grown hg5 (by simp)
    have hb4 := hb3.grown hg4 hb3.size (fun j e => by cases e; have := HQ.out; omega)
    have hb5 := hb4.grown hg5 hb4.size (fun j e => by cases e; have := HQ.out; omega)
    have hld5 := loadRf k53
    have H5 := Lib.hid hb5
    clear hst hg3 hL23 hg4 hg5 hb4 hb5
    go_wp2_with (first
      | (refine wpList_load rfl 34 (.tmp 5) rfl (.pointer (some ⟨w2.heap.size, 0, none⟩)) rfl hld5 ?_)
      | (refine wpList_build rfl 53 #[] rfl #[] rfl (buildH0 _) ?_)
      | (refine wpList_store rfl 34 (.tmp 2) (.tmp 17) rfl (.pointer (some ⟨q + 1, 0, none⟩)) (.agg (rfV A n c true)) rfl rfl hst4 ?_)
      | (refine wpList_store rfl 53 (.tmp 3) (.tmp 18) rfl (.pointer (some ⟨q + 1 + 1, 0, none⟩)) (.agg (hC [])) rfl rfl hst5 ?_)
      | fail)
    exact bodyPost_ret (results_cells2 rfl rfl rfl rfl k25 k35 Try.underlying34 rfl infoRf Try.underlying53 rfl (by rw [hC_size [] (by decide)]; exact infoH)) rfl (HΦ.out _ _ ⟨H5.out, _, rfl, A, c, by rw [← HN.out], by rw [← HN.out] at hc; exact hc, by omega, fun _ h => h⟩)
end Go.Proofs.Ytmipaacobioakaa
