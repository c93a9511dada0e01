/- Walks, route: where a reader stands; the wrappers hash and number. -/
import Derived.Test.YtloiaaolnfimgaaGreatRk9
set_option linter.unusedVariables false
set_option linter.unusedSimpArgs false
namespace Go.Proofs.YtloiaaolnfimgaaGreat
open Go.RowKit Rt
section
variable {P : Program} {ops : Array Oper} {rest : List Oper} {o : Oper} {a : Act} {w : World} {Q : Exit → Act → World → Prop}
theorem wpList_on (hw : Region.wanted o (yielded ops a.tmps) = true) (h : ∀ K : Act → World → Prop, (∀ a w, wpList P ops Q rest a w → K a w) → o.wp P a w K Q) : wpList P ops Q (o :: rest) a w :=
  wpList_step fun K hK => by
    rw [if_pos hw]
    exact h K hK
theorem wpList_loadG (hw : Region.wanted o (yielded ops a.tmps) = true) (T : TypeId) (x : Operand) (ho : o.op = .load T x) (vx : Value) (hx : a.eval x = vx) {v : Value} {w' : World} (hr : (Instr.loadAt T vx).run P w = .ok v w')
    (h : wpList P ops Q rest (a.put o.dst v) w') : wpList P ops Q (o :: rest) a w :=
  wpList_on hw fun _ hK => by
    unfold Oper.wp execOp
    simp only [ho, Sem.run_bind, Sem.run_pure, Result.andThen_ok, hx, hr]
    exact hK _ _ h
theorem wpList_buildG (hw : Region.wanted o (yielded ops a.tmps) = true) (T : TypeId) (parts : Array (Nat × Operand)) (ho : o.op = .build T parts) (vs : Array (Nat × Value)) (hp : (parts.map fun (i, x) => (i, a.eval x)) = vs)
    {v : Value} {w' : World} (hr : (Instr.build T vs).run P w = .ok v w')
    (h : wpList P ops Q rest (a.put o.dst v) w') : wpList P ops Q (o :: rest) a w :=
  wpList_on hw fun _ hK => by
    unfold Oper.wp execOp
    simp only [ho, Sem.run_bind, Sem.run_pure, Result.andThen_ok, hp, hr]
    exact hK _ _ h
theorem wpList_binG (hw : Region.wanted o (yielded ops a.tmps) = true) (b : BinOp) (T T2 : TypeId) (x y : Operand) (ho : o.op = .binOp b T x y T2) (vx vy : Value) (hx : a.eval x = vx) (hy : a.eval y = vy) (hg : (eqGuard b T x y vx vy).run P w = .ok () w)
    {v : Value} {w' : World} (hr : (binOp b T vx vy).run P w = .ok v w')
    (h : wpList P ops Q rest (a.put o.dst v) w') : wpList P ops Q (o :: rest) a w :=
  wpList_on hw fun _ hK => by
    unfold Oper.wp execOp
    simp only [ho, Sem.run_bind, Sem.run_pure, Result.andThen_ok, hx, hy, hg, hr]
    exact hK _ _ h
end
structure RAt (W : World) (g : Nat) (A0 : Option Addr) (L l : List UInt8) (bad : Bool) : Prop where
  mv : Moved W g A0 L l bad
  rd : Rd W A0 L
  off : ∀ b o, A0 = some ⟨b, o, none⟩ → L ≠ [] → b ≠ g
theorem RAt.lt {W : World} {g : Nat} {A0 : Option Addr} {L l : List UInt8} {bad : Bool} (h : RAt W g A0 L l bad) : g < W.heap.size := by
  obtain ⟨D, c, hr, -⟩ := h.mv.ex
  exact hr.lt
theorem RAt.same {W W' : World} {g : Nat} {A0 : Option Addr} {L l : List UInt8} {bad : Bool} {p : Nat → Prop} (h : RAt W g A0 L l bad) (hs : Same p W W') (hg : p g) (hb : ∀ b o, A0 = some ⟨b, o, none⟩ → L ≠ [] → p b) : RAt W' g A0 L l bad :=
  ⟨h.mv.same hs hg, h.rd.same hs hb, h.off⟩
theorem RAt.later {W W' : World} {g : Nat} {A0 : Option Addr} {L l : List UInt8} {bad : Bool} (h : RAt W g A0 L l bad) (hL : Later W W') : RAt W' g A0 L l bad :=
  h.same (Same.of_below hL.below) h.lt (fun b o e hne => h.rd.lt e hne)
theorem RAt.grown {W W' : World} {g q : Nat} {A0 : Option Addr} {L l : List UInt8} {bad : Bool} (h : RAt W g A0 L l bad) (hg : W.grownBy W' (some q)) (hq : g ≠ q) (hb : ∀ b o, A0 = some ⟨b, o, none⟩ → L ≠ [] → b ≠ q) : RAt W' g A0 L l bad :=
  h.same (Same.of_grown hg) ⟨h.lt, fun e => hq (Option.some.inj e)⟩ (fun b o e hne => ⟨h.rd.lt e hne, fun e2 => hb b o e hne (Option.some.inj e2)⟩)
theorem RAt.step {W W' : World} {g : Nat} {A0 D : Option Addr} {L l l' : List UInt8} {bad bad' : Bool} (h : RAt W g A0 L l bad) (hD : ∀ X, Rd X A0 L → Rd X D l) (hs : Same (fun k => k < W.heap.size ∧ k ≠ g) W W') (hm : Moved W' g D l l' bad') : RAt W' g A0 L l' bad' := by
  obtain ⟨D2, c2, h1, h2, h3, h4⟩ := hm.ex
  exact ⟨⟨D2, c2, h1, h2, h3, fun X hX => h4 X (hD X hX)⟩, h.rd.same hs (fun b o e hne => ⟨h.rd.lt e hne, h.off b o e hne⟩), h.off⟩
theorem atHash_any {w : World} {g : Nat} {A0 : Option Addr} {L l : List UInt8} {bad : Bool} (h : RAt w g A0 L l bad) :
    Calls Tryz.prog 79 #[.pointer (some ⟨g, 0, none⟩)] w fun e w' => e = .returned (.tuple #[.agg (hC (Wr.hashR l bad).2.1), .int .i64 (Wr.hashR l bad).2.2]) ∧ Same (fun k => k < w.heap.size ∧ k ≠ g) w w' ∧ RAt w' g A0 L (Wr.hashR l bad).1.1 (Wr.hashR l bad).1.2 := by
  obtain ⟨D, c, hr, hc, hcm, hD⟩ := h.mv.ex
  exact (hash_mv g l bad w D c hr hc hcm (hD w h.rd)).mono fun e w' ⟨h1, h2, h3⟩ => ⟨h2, h1, h.step hD h1 h3⟩
theorem atNum_any {w : World} {g : Nat} {A0 : Option Addr} {L l : List UInt8} {bad : Bool} (most : Int) (h : RAt w g A0 L l bad) :
    Calls Tryz.prog 80 #[.pointer (some ⟨g, 0, none⟩), .int .i64 most] w fun e w' => e = .returned (.tuple #[.int .i64 (Wr.numR l bad most).2.1, .int .i64 (Wr.numR l bad most).2.2]) ∧ Same (fun k => k < w.heap.size ∧ k ≠ g) w w' ∧ RAt w' g A0 L (Wr.numR l bad most).1.1 (Wr.numR l bad most).1.2 := by
  obtain ⟨D, c, hr, hc, hcm, hD⟩ := h.mv.ex
  exact (rNumber_mv g l bad most w D c hr hc hcm (hD w h.rd)).mono fun e w' ⟨h1, h2, h3⟩ => ⟨h2, h1, h.step hD h1 h3⟩
theorem atText_any {w : World} {g : Nat} {A0 : Option Addr} {L l : List UInt8} {bad : Bool} (most : Int) (h : RAt w g A0 L l bad) :
    Calls Tryz.prog 38 #[.pointer (some ⟨g, 0, none⟩), .int .i64 most] w fun e w' => e = .returned (.tuple #[.string ⟨(Wr.textR l bad most).2.1.toArray⟩, .int .i64 (Wr.textR l bad most).2.2]) ∧ Same (fun k => k < w.heap.size ∧ k ≠ g) w w' ∧ RAt w' g A0 L (Wr.textR l bad most).1.1 (Wr.textR l bad most).1.2 := by
  obtain ⟨D, c, hr, hc, hcm, hD⟩ := h.mv.ex
  exact (wtextR_mv g l bad most w D c hr hc hcm (hD w h.rd)).mono fun e w' ⟨h1, h2, h3⟩ => ⟨h2, h1, h.step hD h1 h3⟩
theorem atEnd_any {w : World} {g : Nat} {A0 : Option Addr} {L l : List UInt8} {bad : Bool} (h : RAt w g A0 L l bad) :
    Calls Tryz.prog 39 #[.pointer (some ⟨g, 0, none⟩)] w fun e w' => e = .returned (.int .i64 (Wr.endR l bad).2) ∧ Same (fun k => k < w.heap.size ∧ k ≠ g) w w' ∧ RAt w' g A0 L (Wr.endR l bad).1.1 (Wr.endR l bad).1.2 := by
  obtain ⟨D, c, hr, hc, hcm, hD⟩ := h.mv.ex
  exact (end_mv g l bad w D c hr hc hcm (hD w h.rd)).mono fun e w' ⟨h1, h2, h3⟩ => ⟨h2, h1, h.step hD h1 h3⟩
theorem atRead_any (A : Option Addr) (n ca : Nat) (l : List UInt8) (w : World) (hn : l.length = n) (hbn : n ≤ 140737488355328) (hr : Rd w A l) :
    Calls Tryz.prog 35 #[.slice A n ca] w fun e w' => ∃ g A1, e = .returned (.pointer (some ⟨g, 0, none⟩)) ∧ RAt w' g A1 l l false ∧ (∀ b o, A1 = some ⟨b, o, none⟩ → l ≠ [] → w.heap.size ≤ b) ∧ w.heap.size ≤ g ∧ Below w.heap.size w w' :=
  (read_mv A n ca l w hn hbn hr).mono fun e w' ⟨g, A1, h1, h2, h3, h4, h5, h6⟩ => ⟨g, A1, h1, ⟨h2, h3, fun b o e hne => (h4 b o e hne).2⟩, fun b o e hne => (h4 b o e hne).1, h5, h6⟩
theorem boxReader (v : Value) (w : World) : (Instr.box 83 (.agg #[v])).run Tryz.prog w = .ok (.pointer (some ⟨w.heap.size, 0, none⟩)) (w.alloc (.cells #[v] 83)) := run_box_row w _ _ (by kernel_rfl)
theorem storeHz {w : World} {g : Nat} {a x : List UInt8} (ha : a.length ≤ 32) (hx : x.length ≤ 32) (hr : Row w g 25 (hC a)) : ∃ w', (Instr.storeAt 25 (.pointer (some ⟨g, 0, none⟩)) (.agg (hC x))).run Tryz.prog w = .ok () w' ∧ Row w' g 25 (hC x) ∧ w.grownBy w' (some g) :=
  run_put_row hr (by rw [hC_size a ha, hC_size x hx]) (by rw [hC_size x hx]; exact infoH) (hC_one x)
set_option maxRecDepth 100000 in
set_option maxHeartbeats 2000000 in
theorem rrNum_any (g : Nat) (A0 : Option Addr) (L l : List UInt8) (bad : Bool) (most no : Int) (w : World) (h : RAt w g A0 L l bad) :
    Calls Tryz.prog 37 #[.agg #[.pointer (some ⟨g, 0, none⟩)], .int .i64 most, .int .i64 no] w fun e w' => Same (fun k => k < w.heap.size ∧ k ≠ g) w w' ∧ RAt w' g A0 L (Wr.numR l bad most).1.1 (Wr.numR l bad most).1.2 ∧ ((Wr.numR l bad most).2.2 = 0 ∧ e = .returned (.int .i64 (Wr.numR l bad most).2.1) ∨ (Wr.numR l bad most).2.2 ≠ 0 ∧ e = .panicked (gaveUp no)) := by
  refine Calls.post fun Φ HΦ => ?_
  have hbx := boxReader (.pointer (some ⟨g, 0, none⟩)) w
  have hr := Row.new w 83 #[.pointer (some ⟨g, 0, none⟩)]
  have hL : Later w (w.alloc (.cells #[.pointer (some ⟨g, 0, none⟩)] 83)) := below_new w _
  have hc : (w.alloc (.cells #[.pointer (some ⟨g, 0, none⟩)] 83)).cell? ⟨w.heap.size, 0, none⟩ = some (.pointer (some ⟨g, 0, none⟩)) := (hr.cell 0).trans rfl
  have hnum := atNum_any most (h.later hL)
  have hglt := h.lt
  generalize w.alloc (.cells #[.pointer (some ⟨g, 0, none⟩)] 83) = w1 at *
  obtain ⟨R, hR⟩ : ∃ R, Wr.numR l bad most = R := ⟨_, rfl⟩
  rw [hR] at hnum HΦ
  obtain ⟨⟨l', bad'⟩, x, er⟩ := R
  simp only at hnum HΦ
  have HL := Lib.hid hL
  clear hr hL hR h
  by_cases h0 : er = 0
  · subst h0
    go_enter Tryz.func37, Tryz.ntmps37
    go_wp2_with (first
      | (guard_target =~ wpList _ _ _ (_ :: _) _ _; refine wpList_box rfl 83 (.tmp 0) rfl (.agg #[.pointer (some ⟨g, 0, none⟩)]) rfl hbx ?_)
      | (go_at_call 80; refine hnum.mono ?_; clear hnum; rintro e w2 ⟨rfl, hs2, hr2⟩)
      | (go_at_call 32; refine (rmust_ok _ _).mono ?_; rintro e w7 ⟨h7, rfl⟩; obtain rfl := h7.symm)
      | fail)
    exact HΦ.out _ _ ⟨((Same.of_below HL.out.below).mono fun k hk => hk.1).trans (hs2.mono fun k hk => ⟨Nat.lt_of_lt_of_le hk.1 HL.out.size, hk.2⟩), hr2, .inl (by simp)⟩
  · have h0' : (er == 0) = false := by simpa using h0
    go_enter Tryz.func37, Tryz.ntmps37
    go_wp2_with (first
      | (guard_target =~ wpList _ _ _ (_ :: _) _ _; refine wpList_box rfl 83 (.tmp 0) rfl (.agg #[.pointer (some ⟨g, 0, none⟩)]) rfl hbx ?_)
      | (go_at_call 80; refine hnum.mono ?_; clear hnum; rintro e w2 ⟨rfl, hs2, hr2⟩)
      | (go_at_call 32; refine (rmust_no _ _).mono ?_; rintro e w7 ⟨h7, rfl⟩; obtain rfl := h7.symm)
      | fail)
    exact ⟨rfl, HΦ.out _ _ ⟨((Same.of_below HL.out.below).mono fun k hk => hk.1).trans (hs2.mono fun k hk => ⟨Nat.lt_of_lt_of_le hk.1 HL.out.size, hk.2⟩), hr2, .inr ⟨h0, rfl⟩⟩⟩
set_option maxRecDepth 100000 in
set_option maxHeartbeats 2000000 in
theorem rrHash_any (g : Nat) (A0 : Option Addr) (L l : List UInt8) (bad : Bool) (no : Int) (w : World) (h : RAt w g A0 L l bad) :
    Calls Tryz.prog 36 #[.agg #[.pointer (some ⟨g, 0, none⟩)], .int .i64 no] w fun e w' => Same (fun k => k < w.heap.size ∧ k ≠ g) w w' ∧ RAt w' g A0 L (Wr.hashR l bad).1.1 (Wr.hashR l bad).1.2 ∧ ((Wr.hashR l bad).2.2 = 0 ∧ e = .returned (.agg (hC (Wr.hashR l bad).2.1)) ∨ (Wr.hashR l bad).2.2 ≠ 0 ∧ e = .panicked (gaveUp no)) := by
  refine Calls.post fun Φ HΦ => ?_
  have hbx := boxReader (.pointer (some ⟨g, 0, none⟩)) w
  have hr := (Row.new w 83 #[.pointer (some ⟨g, 0, none⟩)]).alloc (.cells (hC []) 25)
  have hr4 := Row.new (w.alloc (.cells #[.pointer (some ⟨g, 0, none⟩)] 83)) 25 (hC [])
  have hL : Later w ((w.alloc (.cells #[.pointer (some ⟨g, 0, none⟩)] 83)).alloc (.cells (hC []) 25)) := ((Later.refl w).alloc _).alloc _
  have hc : ((w.alloc (.cells #[.pointer (some ⟨g, 0, none⟩)] 83)).alloc (.cells (hC []) 25)).cell? ⟨w.heap.size, 0, none⟩ = some (.pointer (some ⟨g, 0, none⟩)) := (hr.cell 0).trans rfl
  have hnum := atHash_any (h.later hL)
  have hlen := Wr.hashR_len l bad
  have hglt := h.lt
  have hoff := Lib.hid (fun b o e hne => h.rd.lt (b := b) (o := o) e hne)
  obtain ⟨R, hR⟩ : ∃ R, Wr.hashR l bad = R := ⟨_, rfl⟩
  rw [hR] at hnum HΦ hlen
  obtain ⟨⟨l', bad'⟩, x, er⟩ := R
  simp only at hnum HΦ hlen
  have hx : x.length ≤ 32 := by rcases hlen with h | h; rw [h]; decide; omega
  have HL := Lib.hid hL
  clear hr hL hR h hlen
  go_enter Tryz.func36, Tryz.ntmps36
  go_upto_region 1 with (first
    | (guard_target =~ wpList _ _ _ (_ :: _) _ _; refine wpList_box rfl 83 (.tmp 0) rfl (.agg #[.pointer (some ⟨g, 0, none⟩)]) rfl hbx ?_)
    | (with_reducible refine wpList_alloc rfl 25 rfl (allocH _) ?_)
    | fail)
  simp only [World.size_alloc] at hr4 ⊢
  obtain ⟨qq, hqq⟩ : ∃ q, q = w.heap.size := ⟨_, rfl⟩
  rw [← hqq] at hc hr4 ⊢
  generalize (w.alloc (.cells #[.pointer (some ⟨g, 0, none⟩)] 83)).alloc (.cells (hC []) 25) = w1 at *
  have hg1 : g ≠ qq + 1 := by omega
  have HQ := Lib.hid hqq
  clear hqq hbx
  have h4lt := hr4.lt
  go_upto_region 2 with (first
    | (go_at_call 79; refine hnum.mono ?_; clear hnum; rintro e w2 ⟨rfl, hs2, hr2⟩; obtain ⟨w3, hst, k53, hg3⟩ := storeHz (a := []) (x := x) (by simp) hx (Row.new w2 25 (hC [])))
    | (with_reducible refine wpList_alloc rfl 25 rfl (allocH _) ?_)
    | (guard_target =~ wpList _ _ _ (_ :: _) _ _; refine wpList_store rfl 25 (.tmp 5) (.tmp 11) rfl (.pointer (some ⟨w2.heap.size, 0, none⟩)) (.agg (hC x)) rfl rfl hst ?_)
    | fail)
  have hL23 : Later w2 w3 := ((Later.refl w2).alloc (.cells (hC []) 25)).grown hg3 (by simp) (fun j e => by cases e; omega)
  have hr3 := hr2.later hL23
  have k43 := (hr4.same hs2 ⟨h4lt, fun e => hg1 e.symm⟩).later hL23
  obtain ⟨q5, hq5⟩ : ∃ q, q = w2.heap.size := ⟨_, rfl⟩
  have h25 := hs2.size
  rw [← hq5] at k53 hg3 h25 ⊢
  have hs3 : Same (fun k => k < w.heap.size ∧ k ≠ g) w w3 := (((Same.of_below HL.out.below).mono fun k hk => hk.1).trans (hs2.mono fun k hk => ⟨Nat.lt_of_lt_of_le hk.1 HL.out.size, hk.2⟩)).trans ((Same.of_below hL23.below).mono fun k hk => by have := HL.out.size; rw [← hq5]; omega)
  have H5 := Lib.hid hq5
  clear hq5 hs2 hL23 hg3 hst hr2
  by_cases h0 : er = 0
  · subst h0
    have hld := loadHz hx k53
    obtain ⟨w4, hst4, k44, hg4⟩ := storeHz (a := []) (x := x) (by simp) hx k43
    have hs4 : Same (fun k => k < w.heap.size ∧ k ≠ g) w w4 := hs3.trans ((Same.of_grown hg4).mono fun k hk => ⟨Nat.lt_of_lt_of_le hk.1 hs3.size, fun e => by have := Option.some.inj e; have := HQ.out; omega⟩)
    have hr4' := hr3.grown hg4 hg1 (fun b o e hne => by have := hoff.out b o e hne; have := HQ.out; omega)
    have HR4 := Lib.hid (⟨hs4, hr4'⟩ : _ ∧ _)
    clear hs3 hr3 hs4 hr4'
    go_wp2_with (first
      | (go_at_call 32; refine (rmust_ok _ _).mono ?_; rintro e w7 ⟨h7, rfl⟩; obtain rfl := h7.symm)
      | (guard_target =~ wpList _ _ _ (_ :: _) _ _; refine wpList_load rfl 25 (.tmp 5) rfl (.pointer (some ⟨q5, 0, none⟩)) rfl hld ?_)
      | (guard_target =~ wpList _ _ _ (_ :: _) _ _; refine wpList_store rfl 25 (.tmp 4) (.tmp 17) rfl (.pointer (some ⟨qq + 1, 0, none⟩)) (.agg (hC x)) rfl rfl hst4 ?_)
      | fail)
    exact bodyPost_ret (results_cell_row rfl _ _ (qq + 1) 25 (hC x) (0, 0) _ rfl k44 Tryz.underlying25 rfl (by rw [hC_size x hx]; exact infoH)) rfl (HΦ.out _ _ ⟨HR4.out.1, HR4.out.2, .inl (by simp)⟩)
  · have h0' : (er == 0) = false := by simpa using h0
    go_wp2_with (first
      | (go_at_call 32; refine (rmust_no _ _).mono ?_; rintro e w7 ⟨h7, rfl⟩; obtain rfl := h7.symm)
      | fail)
    exact ⟨rfl, HΦ.out _ _ ⟨hs3, hr3, .inr ⟨h0, rfl⟩⟩⟩
end Go.Proofs.YtloiaaolnfimgaaGreat
