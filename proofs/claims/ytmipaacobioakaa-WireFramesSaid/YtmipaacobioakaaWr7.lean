/- Walks: a reader is made; it takes a number. -/
import Derived.Test.YtmipaacobioakaaWr6
set_option linter.unusedVariables false
set_option linter.unusedSimpArgs false
namespace Go.Proofs.Ytmipaacobioakaa
open Go.RowKit
section
variable {P : Program} {Q : Exit → Act → World → Prop}
theorem op_callFK {K : Act → World → Prop} {o : Oper} {a : Act} {W : World} {f : FuncId} {xs : Array Operand} {ts : Array TypeId} {vs : Array Value} (ho : o.op = .call { callee := .value (.func f), args := xs, argTypes := ts }) (hv : xs.map a.eval = vs) (eg : ∀ args w, (callFunc f args).run P w = .ok (.enter f args) w)
    (h : Calls P f vs W fun e W' => ∃ v, e = .returned v ∧ K (a.put o.dst v) W') : o.wp P a W K Q := by
  have hr : ((do let d ← resolve a.eval { callee := .value (.func f), args := xs, argTypes := ts } o.type; invoke d.target d.args) : Sem Next).run P W = .ok (.enter f vs) W := by
    simp [resolve, invoke, go_sem, hv, eg, Act.eval]
  unfold Oper.wp execOp
  simp only [ho]
  rw [hr]
  exact h.mono fun e W' ⟨v, he, hq⟩ => by subst he; exact hq
theorem last2_callK {o y : Oper} {a : Act} {W : World} {f : FuncId} {xs : Array Operand} {ts : Array TypeId} {vs : Array Value} {x : Operand} (ho : o.op = .call { callee := .value (.func f), args := xs, argTypes := ts }) (hv : xs.map a.eval = vs) (eg : ∀ args w, (callFunc f args).run P w = .ok (.enter f args) w) (hy : y.op = .assign x) (hx : ∀ v, (a.put o.dst v).eval x = v)
    (h : Calls P f vs W fun e W' => ∃ v, e = .returned v ∧ Q .normal ((a.put o.dst v).put y.dst v) W') : LastOk2 P o y a W Q :=
  ⟨op_callFK ho hv eg (h.mono fun e W' ⟨v, he, hq⟩ => ⟨v, he, op_assignK (K := fun a W => Q .normal a W) hy (by rw [hx]; exact hq)⟩)⟩
theorem op_makeFunc {o : Oper} {a : Act} {W : World} {R : Value → World → Prop} {f : FuncId} {xs : Array Operand} {vs : Array Value} (ho : o.op = .makeFunc (.func f) #[] xs) (hv : xs.map a.eval = vs) (h : R (.func (.func f) #[] vs) W) : o.wp P a W (fun a' W' => ∃ v, a' = a.put o.dst v ∧ Later W W' ∧ R v W') Q := by
  have hr : (Instr.makeFunc (.func f) #[] vs).run P W = .ok (.func (.func f) #[] vs) W := rfl
  unfold Oper.wp execOp
  simp only [ho]
  simp [hv, hr, go_sem, Oper.upon]
  exact ⟨_, rfl, Later.refl _, h⟩
end
theorem loadPR {b o : Nat} {x : Option Addr} {W : World} (hc : W.cell? ⟨b, o, none⟩ = some (.pointer x)) : (Instr.loadAt 37 (.pointer (some ⟨b, o, none⟩))).run Try.prog W = .ok (.pointer x) W := by
  go_simp
theorem loadI64 {b o : Nat} {x : Int} {W : World} (hc : W.cell? ⟨b, o, none⟩ = some (.int .i64 x)) : (Instr.loadAt 2 (.pointer (some ⟨b, o, none⟩))).run Try.prog W = .ok (.int .i64 x) W := by
  go_simp
theorem infoRd : (Try.prog.info? 47).map (·.size) = some 3 := by kernel_rfl
theorem boxRd (A : Option Addr) (n c : Nat) (made bad : Bool) (w : World) : (Instr.box 47 (.agg (rdC A n c made bad))).run Try.prog w = .ok (.pointer (some ⟨w.heap.size, 0, none⟩)) (w.alloc (.cells (rdC A n c made bad) 47)) := run_box_row w _ _ infoRd
theorem read_any (A : Option Addr) (n ca : Nat) (l : List UInt8) (w : World) (hn : l.length = n) (hbn : n ≤ 140737488355328) (hr : Rd w A l) :
    Calls Try.prog 17 #[.slice A n ca] w fun e w' => ∃ g, e = .returned (.pointer (some ⟨g, 0, none⟩)) ∧ IsRd w' g l false ∧ w.heap.size ≤ g ∧ Below w.heap.size w w' := by
  subst hn
  have hcl := clone_any A l.length ca l w rfl hbn hr
  go_enter Try.func17, Try.ntmps17
  go_wp2_with (first
    | (go_at_call 40; refine hcl.mono ?_; clear hcl; rintro e w1 ⟨v1, rfl, hown, hL1⟩; obtain ⟨A1, c1, rfl, h1, h2, hr1⟩ := hown.slice)
    | fail)
  go_ret
  exact ⟨_, rfl, ⟨A1, c1, Row.new w1 _ _, h1, h2, hr1.alloc _⟩, hL1.size, hL1.alloc hL1.size _⟩
/-- What a reader that was at l (bytes at A) holds now. -/
structure Moved (W : World) (g : Nat) (A : Option Addr) (l : List UInt8) (l' : List UInt8) (bad : Bool) : Prop where
  ex : ∃ D c, Row W g 47 (rdC D l'.length c true bad) ∧ l'.length ≤ c ∧ c ≤ 9223372036854775807 ∧ ∀ X, Rd X A l → Rd X D l'
theorem Moved.far {W : World} {g : Nat} {A : Option Addr} {l l' : List UInt8} {bad : Bool} (h : Moved W g A l l' bad) {p : Addr} (hp : g ≠ p.block) (v : Value) : Moved (W.setCell p v) g A l l' bad := by
  obtain ⟨D, c, h1, h2⟩ := h
  exact ⟨D, c, h1.far hp v, h2⟩
theorem Moved.isRd {W : World} {g : Nat} {A : Option Addr} {l l' : List UInt8} {bad : Bool} (h : Moved W g A l l' bad) (hd : Rd W A l) : IsRd W g l' bad := by
  obtain ⟨D, c, h1, h2, h3, h4⟩ := h
  exact ⟨D, c, h1, h2, h3, h4 W hd⟩
def Wr.numR (l : List UInt8) (bad : Bool) (most : Int) : (List UInt8 × Bool) × Int × Int :=
  if bad then ((l, true), 0, 140) else if most < 0 then ((l, false), 0, 2) else if Wr.may l most then ((l.drop (Wr.first l).2.toNat, false), ((Wr.first l).1 : Int), 0) else ((l, true), 0, 140)
set_option maxRecDepth 100000 in
set_option maxHeartbeats 2000000 in
theorem rNumber_any (g : Nat) (l : List UInt8) (bad : Bool) (most : Int) (w : World) (hr : IsRd w g l bad) :
    Calls Try.prog 19 #[.pointer (some ⟨g, 0, none⟩), .int .i64 most] w fun e w' => Same (fun k => k < w.heap.size ∧ k ≠ g) w w' ∧ e = .returned (.tuple #[.int .i64 (Wr.numR l bad most).2.1, .int .i64 (Wr.numR l bad most).2.2]) ∧ IsRd w' g (Wr.numR l bad most).1.1 (Wr.numR l bad most).1.2 := by
  obtain ⟨A, c, hrow, hc, hcm, hd⟩ := hr
  obtain ⟨n, hn⟩ : ∃ n, l.length = n := ⟨_, rfl⟩
  rw [hn] at hrow hc
  have k2 := ((Row.new w 37 #[.pointer (some ⟨g, 0, none⟩)]).alloc (.cells #[.int .i64 most] 2)).alloc (.cells #[.int .i64 0] 2)
  have k3 := (Row.new (w.alloc (.cells #[.pointer (some ⟨g, 0, none⟩)] 37)) 2 #[.int .i64 most]).alloc (.cells #[.int .i64 0] 2)
  have k4 := Row.new ((w.alloc (.cells #[.pointer (some ⟨g, 0, none⟩)] 37)).alloc (.cells #[.int .i64 most] 2)) 2 #[.int .i64 0]
  have hb := (((Later.refl w).alloc (.cells #[.pointer (some ⟨g, 0, none⟩)] 37)).alloc (.cells #[.int .i64 most] 2)).alloc (.cells #[.int .i64 0] 2)
  have hgl := hrow.lt
  have HN := Lib.hid hn
  have HRW := Lib.hid hrow
  clear hn hrow
  go_enter Try.func19, Try.ntmps19
  go_upto_region 1 with fail
  simp only [World.size_alloc] at k3 k4
  obtain ⟨q2, hq2⟩ : ∃ q, q = w.heap.size := ⟨_, rfl⟩
  rw [← hq2] at k2 k3 k4 ⊢
  have HQ := Lib.hid hq2
  clear hq2
  generalize ((w.alloc (.cells #[.pointer (some ⟨g, 0, none⟩)] 37)).alloc (.cells #[.int .i64 most] 2)).alloc (.cells #[.int .i64 0] 2) = w1 at *
  have kg := HRW.out.later hb
  have hd1 := hd.later hb
  refine (wpIn_wide (n := 0)).1 ?_
  refine wpIn_region_last2 wide_wide [Pr.eq (.pointer (some ⟨g, 0, none⟩)), Pr.eq (.int .i64 most), Pr.eq (.int .i64 (if most < 0 then 2 else 0)), Pr.eq (.func (.func 49) #[] #[.pointer (some ⟨q2, 0, none⟩), .pointer (some ⟨q2 + 1, 0, none⟩), .pointer (some ⟨q2 + 1 + 1, 0, none⟩)])] (by kernel_rfl) (by kernel_rfl) (by kernel_rfl) (by kernel_rfl) (by kernel_rfl) (by kernel_rfl) rfl rfl (by kernel_rfl) ⟨?_, ?_, ?_, ?_, trivial⟩ ?_
  · exact fun ac W hL he => stepOk_want rfl (op_load rfl (he.keep (.tmp 2) (by kernel_rfl)) (loadPR (((k2.later hL).cell 0).trans rfl)) rfl)
  · exact fun ac W hL he => stepOk_want rfl (op_load rfl (he.keep (.tmp 3) (by kernel_rfl)) (loadI64 (((k3.later hL).cell 0).trans rfl)) rfl)
  · intro ac W hL he; refine stepOk_want rfl ?_; have e0 : ac.eval (.tmp 7) = .int .i64 most := (he.get 1 7 (by kernel_rfl) rfl); exact op_callF (vs := #[.int .i64 most]) rfl (by simp only [List.map_toArray, List.map_cons, List.map_nil, e0]) (enters_of Try.func48 (by kernel_rfl) rfl) ((bound_any most W).mono fun e W' ⟨hw', he'⟩ => ⟨_, he', hw' ▸ Later.refl _, rfl⟩)
  · intro ac W hL he; refine stepOk_want rfl (op_makeFunc rfl ?_ rfl); simp only [List.map_toArray, List.map_cons, List.map_nil, (he.keep (.tmp 2) (by kernel_rfl)), (he.keep (.tmp 3) (by kernel_rfl)), (he.keep (.tmp 4) (by kernel_rfl))]; rfl
  · intro xs W hL hx hk hg
    have e6 := hg 0 6 (by decide) (by kernel_rfl)
    have e8 := hg 2 8 (by decide) (by kernel_rfl)
    have e9 := hg 3 9 (by decide) (by kernel_rfl)
    have v6 : xs 0 = .pointer (some ⟨g, 0, none⟩) := hx 0 (by decide)
    have v8 : xs 2 = .int .i64 (if most < 0 then 2 else 0) := hx 2 (by decide)
    have v9 : xs 3 = .func (.func 49) #[] #[.pointer (some ⟨q2, 0, none⟩), .pointer (some ⟨q2 + 1, 0, none⟩), .pointer (some ⟨q2 + 1 + 1, 0, none⟩)] := hx 3 (by decide)
    rw [v6] at e6
    rw [v8] at e8
    rw [v9] at e9
    have k2 := k2.later hL
    have k3 := k3.later hL
    have k4 := k4.later hL
    have kg := kg.later hL
    have hd1 := hd1.later hL
    have hb := hb.step hL
    have hq4 := k4.lt
    have hgW := kg.lt
    have hsz := hb.size
    refine last2_callK (vs := #[.pointer (some ⟨g, 0, none⟩), .int .i64 (if most < 0 then 2 else 0), .func (.func 49) #[] #[.pointer (some ⟨q2, 0, none⟩), .pointer (some ⟨q2 + 1, 0, none⟩), .pointer (some ⟨q2 + 1 + 1, 0, none⟩)]]) rfl (by simp only [List.map_toArray, List.map_cons, List.map_nil, e6, e8, e9]) (enters_of Try.func47 (by kernel_rfl) rfl) rfl (fun _ => rfl) ?_
    refine (try_any g A n c bad (if most < 0 then 2 else 0) _ _ W kg (fun k => k < w.heap.size ∧ k ≠ g) (fun k h => ⟨Nat.lt_of_lt_of_le h.1 hsz, h.2⟩) (enters_of Try.func49 (by kernel_rfl) rfl _) (fun W' => ¬ Wr.may l most ∧ Row W' (q2 + 1 + 1) 2 #[.int .i64 0])
      (fun X Y ⟨h1, h2⟩ hs => ⟨h1, h2.same hs ⟨hq4, by have := HQ.out; omega⟩⟩)
      (fun W' => Wr.may l most ∧ Row W' (q2 + 1 + 1) 2 #[.int .i64 ((Wr.first l).1 : Int)] ∧ ∃ D, Row W' g 47 (rdC D (n - (Wr.first l).2.toNat) (c - (Wr.first l).2.toNat) true false) ∧ ∀ X, Rd X A l → Rd X D (l.drop (Wr.first l).2.toNat))
      (fun X Y ⟨h0, h1, D, h2, h3⟩ hs => ⟨h0, h1.same hs hq4, D, h2.same hs hgW, h3⟩)
      (fun hbad h0 W1 hb1 => ?_)).mono ?_
    · subst hbad
      refine (numFn_any g q2 (q2 + 1) (q2 + 1 + 1) _ _ 2 A n c l most 0 W1 HN.out hc hcm (kg.later hb1) (hd1.later hb1) (k2.later hb1) (k3.later hb1) (k4.later hb1) (by have := HQ.out; omega)).mono ?_
      have k41 := k4.later hb1
      rintro e W' ⟨hs, h⟩
      refine ⟨hs.mono (fun k h => ?_), ?_⟩
      · have := HQ.out
        have := hb1.size
        rcases h with h | h
        · exact ⟨by omega, h.2, by omega⟩
        · exact ⟨h.2, by omega, by omega⟩
      · rcases h with ⟨hm, rfl, hq, D, hD, hDr⟩ | ⟨hm, rfl, hq4, hq⟩
        · exact .inl ⟨rfl, hm, hq, D, hD, hDr⟩
        · exact .inr ⟨rfl, ⟨hm, hq4⟩, A, n, c, hq⟩
    clear hx hg v6 v8 v9
    rintro e W' ⟨hs, h⟩
    have hnn := HN.out
    obtain ⟨he, hk4, hR⟩ : e = .returned (.int .i64 (Wr.numR l bad most).2.2) ∧ Row W' (q2 + 1 + 1) 2 #[.int .i64 (Wr.numR l bad most).2.1] ∧ Moved W' g A l (Wr.numR l bad most).1.1 (Wr.numR l bad most).1.2 := by
      rcases h with ⟨rfl, rfl, hb2⟩ | ⟨rfl, hah, rfl, hb2⟩ | ⟨rfl, hah, ⟨rfl, hm, hq, D, hD, hDr⟩ | ⟨⟨hm, hq⟩, rfl, hq2⟩⟩
      · exact ⟨rfl, k4.later hb2, A, c, by show Row W' g _ (rdC A l.length c true true); rw [hnn]; exact kg.later hb2, by show l.length ≤ c; omega, hcm, fun _ h => h⟩
      · have hm0 : most < 0 := Decidable.byContradiction fun h => hah (if_neg h)
        have e1 : Wr.numR l false most = ((l, false), 0, 2) := by simp [Wr.numR, hm0]
        rw [e1, if_pos hm0]
        exact ⟨rfl, k4.later hb2, A, c, by show Row W' g _ (rdC A l.length c true false); rw [hnn]; exact kg.later hb2, by show l.length ≤ c; omega, hcm, fun _ h => h⟩
      · have hm0 : ¬ most < 0 := fun h => by rw [if_pos h] at hah; cases hah
        have e1 : Wr.numR l false most = ((l.drop (Wr.first l).2.toNat, false), ((Wr.first l).1 : Int), 0) := by simp [Wr.numR, hm0, hm]
        rw [e1]
        exact ⟨rfl, hq, D, c - (Wr.first l).2.toNat, by show Row W' g _ (rdC D (l.drop (Wr.first l).2.toNat).length _ true false); rw [List.length_drop, hnn]; exact hD, by show (l.drop (Wr.first l).2.toNat).length ≤ _; rw [List.length_drop]; omega, by omega, hDr⟩
      · have hm0 : ¬ most < 0 := fun h => by rw [if_pos h] at hah; cases hah
        have e1 : Wr.numR l false most = ((l, true), 0, 140) := by simp [Wr.numR, hm0, hm]
        rw [e1]
        exact ⟨rfl, hq, A, c, by show Row W' g _ (rdC A l.length c true true); rw [hnn]; exact hq2, by show l.length ≤ c; omega, hcm, fun _ h => h⟩
    subst he
    refine ⟨_, rfl, ?_⟩
    clear h e6 e8 e9 k2 k3 k4 kg hd1
    have hs0 := ((Same.of_below hb).mono (fun k h => h.1) |>.trans hs)
    have HR := Lib.hid hR
    have HS := Lib.hid hs0
    clear hR hs0 hs hb
    have c4 : W'.cell? ⟨q2 + 1 + 1, 0, none⟩ = some (.int .i64 (Wr.numR l bad most).2.1) := (hk4.cell 0).trans rfl
    have f4 : W'.frozen? ⟨q2 + 1 + 1, 0, none⟩ = false := hk4.frozen 0
    simp only [init2, pen2, last2, putL, Nat.reduceAdd, Act.put, List.setIfInBounds_toArray, List.set_cons_succ, List.set_cons_zero]
    go_wp2_with fail
    have k5 := hk4.set 0 (.int .i64 (Wr.numR l bad most).2.1)
    have hcv : (W'.setCell ⟨q2 + 1 + 1, 0, none⟩ (.int .i64 (Wr.numR l bad most).2.1)).cell? ⟨q2 + 1 + 1, 0, none⟩ = some (.int .i64 (Wr.numR l bad most).2.1) := (k5.cell 0).trans rfl
    have hst := Same.set W' ⟨q2 + 1 + 1, 0, none⟩ (.int .i64 (Wr.numR l bad most).2.1)
    have hq := HQ.out
    refine bodyPost_ret (v := .tuple #[.int .i64 (Wr.numR l bad most).2.1, .int .i64 (Wr.numR l bad most).2.2]) (by simp [results, Try.results19, go_sem, hcv]) rfl ⟨?_, rfl, ?_⟩
    · exact HS.out.trans (hst.mono (fun k h => by show k ≠ q2 + 1 + 1; omega))
    · exact (HR.out.far (p := ⟨q2 + 1 + 1, 0, none⟩) (by show g ≠ q2 + 1 + 1; omega) _).isRd (rd_same_g HRW.out hd (HS.out.trans (hst.mono (fun k h => by show k ≠ q2 + 1 + 1; omega))))
end Go.Proofs.Ytmipaacobioakaa
