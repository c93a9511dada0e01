/- Walks: the reader's Hash. -/
import Derived.Test.YtmipaacobioakaaWr10
set_option linter.unusedVariables false
set_option linter.unusedSimpArgs false
namespace Go.Proofs.Ytmipaacobioakaa
open Go.RowKit
section
variable {P : Program} {Q : Exit → Act → World → Prop}
/-- A call that returns, or panics. -/
theorem op_callFP {K : Act → World → Prop} {o : Oper} {a : Act} {W : World} {f : FuncId} {xs : Array Operand} {ts : Array TypeId} {vs : Array Value} (ho : o.op = .call { callee := .value (.func f), args := xs, argTypes := ts }) (hv : xs.map a.eval = vs) (eg : ∀ args w, (callFunc f args).run P w = .ok (.enter f args) w)
    (h : Calls P f vs W fun e W' => (∃ v, e = .returned v ∧ K (a.put o.dst v) W') ∨ (∃ p, e = .panicked p ∧ Q (.panic p) a W')) : o.wp P a W K Q := by
  have hr : ((do let d ← resolve a.eval { callee := .value (.func f), args := xs, argTypes := ts } o.type; invoke d.target d.args) : Sem Next).run P W = .ok (.enter f vs) W := by
    simp [resolve, invoke, go_sem, hv, eg, Act.eval]
  unfold Oper.wp execOp
  simp only [ho]
  rw [hr]
  refine h.mono fun e W' h => ?_
  rcases h with ⟨v, he, hq⟩ | ⟨p, he, hq⟩
  · subst he; exact hq
  · subst he; exact hq
end
theorem loadHz {w : World} {g : Nat} {h : List UInt8} (hl : h.length ≤ 32) (hr : Row w g 53 (hC h)) : (Instr.loadAt 53 (.pointer (some ⟨g, 0, none⟩))).run Try.prog w = .ok (.agg (hC h)) w := by
  have := run_loadAt_mid (P := Try.prog) w g 0 53 (hC h).toList _ (hr.range 0 _ fun j v hv => by rw [Nat.zero_add, ← Array.getElem?_toList]; exact hv) Try.underlying53 rfl (by rw [Array.length_toList, hC_size h (by omega)]; exact infoH)
  rwa [Array.toArray_toList] at this
theorem results_cell_tmp {P : Program} {fn : Func} {p q : Tmp} {ty : TypeId} (h : fn.results = #[.cell p ty, .tmp q]) (tmps : Array Value) (w : World) (g : Nat) (t : TypeId) (cs : Array Value) (fr : Nat × Nat) (d : TypeDesc) (v : Value)
    (hp : tmps.getD p undef = .pointer (some ⟨g, 0, none⟩)) (hq : tmps.getD q undef = v) (hg : w.heap[g]? = some (.cells cs t fr))
    (hu : P.underlying ty = some d) (hd : (match d with | .struct _ | .array _ _ => true | _ => false) = true) (hi : (P.info? ty).map (·.size) = some cs.size) :
    (results fn tmps).run P w = .ok (.tuple #[.agg cs, v]) w := by
  have hp' : tmps[p]?.getD undef = .pointer (some ⟨g, 0, none⟩) := by simpa using hp
  have hq' : tmps[q]?.getD undef = v := by simpa using hq
  simp [results, h, hp', hq', asAddr, run_loadVar_row w g t ty cs fr d hg hu hd hi]
theorem hC_set (l : List UInt8) (h : 32 ≤ l.length) : setFrom (hC []) 0 ((l.take 32).map byteV) = hC (l.take 32) := by
  have hl : (l.take 32).length = 32 := by rw [List.length_take]; omega
  have := hC_copy [] (l.take 32) (by rw [hl]; decide)
  simpa using this
set_option maxRecDepth 100000 in
set_option maxHeartbeats 1000000 in
theorem hashFn_any (g q1 q2 : Nat) (T1 : TypeId) (A : Option Addr) (n c : Nat) (l : List UInt8) (w : World) (hn : l.length = n) (hc : n ≤ c) (hcm : c ≤ 9223372036854775807) (hr : Row w g 47 (rdC A n c true false)) (hd : Rd w A l)
    (k1 : Row w q1 T1 #[.pointer (some ⟨g, 0, none⟩)]) (k2 : Row w q2 53 (hC [])) (h1 : q1 ≠ g) (h2 : q2 ≠ g) (h21 : q1 ≠ q2) (hb2 : ∀ b o, A = some ⟨b, o, none⟩ → l ≠ [] → b ≠ q2) :
    Calls Try.prog 54 #[.pointer (some ⟨q2, 0, none⟩), .pointer (some ⟨q1, 0, none⟩)] w fun e w' => Same (fun k => k < w.heap.size ∧ k ≠ g ∧ k ≠ q2) w w' ∧ ((decide (32 ≤ l.length) = true ∧ e = .returned (.tuple #[]) ∧ Row w' q2 53 (hC (l.take 32)) ∧ Moved w' g A l (l.drop 32) false) ∨ (decide (32 ≤ l.length) = false ∧ e = .panicked lacksP ∧ Row w' q2 53 (hC []) ∧ ∃ D n' c', Row w' g 47 (rdC D n' c' true false))) := by
  have hid : ∀ w1, w.grownBy w1 (some g) → Same (fun k => k < w.heap.size ∧ k ≠ g ∧ k ≠ q2) w w1 := fun w1 hg => (Same.of_grown hg).mono (fun k h => ⟨h.1, fun e => h.2.1 (Option.some.inj e)⟩)
  have HN := Lib.hid hn
  rw [hn]
  have HR := Lib.hid hr
  have HD := Lib.hid hd
  clear hn hr hd
  go_enter Try.func54, Try.ntmps54
  go_upto_region 0 with fail
  refine (wpIn_wide (n := 0)).1 ?_
  refine wpIn_region_lastY wide_wide (fun f xs W => w.grownBy W (some g) ∧ (f 0 = true → xs 0 = .slice (some ⟨q2, 0, none⟩) 32 32) ∧ (f 1 = true → xs 1 = .pointer (some ⟨g, 0, none⟩)) ∧ (f 2 = true → 32 ≤ n ∧ xs 2 = .slice A 32 c ∧ ∃ D, Row W g 47 (rdC D (n - 32) (c - 32) true false) ∧ ∀ X, Rd X A l → Rd X D (l.drop 32)) ∧ (f 2 = false → Row W g 47 (rdC A n c true false))) ⟨grown_drew (grown_refl w _), by simp, by simp, by simp, fun _ => HR.out.drew⟩ (by kernel_rfl) (by kernel_rfl) (by kernel_rfl) (by kernel_rfl) (by kernel_rfl) (by kernel_rfl) rfl ⟨?_, ?_, ?_, trivial⟩ ?_
  · intro a W f xs hI he
    refine stepOkY_later rfl ?_ (op_slice (R := fun v W' => v = .slice (some ⟨q2, 0, none⟩) 32 32) (W' := W) rfl (he.keep (.tmp 0) (by kernel_rfl)) rfl rfl rfl (sliceHash W) rfl)
    rintro v W' hL rfl
    obtain ⟨hg, i0, i1, i2, i3⟩ := hI
    refine ⟨grown_trans hg (grown_weak hL g), ?_, ?_, ?_, ?_⟩
    · intro _; rfl
    · intro h; exact i1 h
    · intro h
      obtain ⟨a1, a2, D, a3, a4⟩ := i2 h
      exact ⟨a1, a2, D, a3.later hL, a4⟩
    · intro h; exact (i3 h).later hL
  · intro a W f xs hI he
    obtain ⟨hg, i0, i1, i2, i3⟩ := hI
    have k11 := k1.grown hg (fun e => h1 (Option.some.inj e))
    refine stepOkY_later rfl ?_ (op_load (R := fun v W' => v = .pointer (some ⟨g, 0, none⟩)) rfl (he.keep (.tmp 1) (by kernel_rfl)) (loadPR ((k11.cell 0).trans rfl)) rfl)
    rintro v W' hL rfl
    refine ⟨grown_trans hg (grown_weak hL g), ?_, ?_, ?_, ?_⟩
    · intro h; exact i0 h
    · intro _; rfl
    · intro h
      obtain ⟨a1, a2, D, a3, a4⟩ := i2 h
      exact ⟨a1, a2, D, a3.later hL, a4⟩
    · intro h; exact (i3 h).later hL
  · intro a W f xs hI he
    obtain ⟨hg, i0, i1, i2, i3⟩ := hI
    have hf2 : f 2 = false := he.todo
    have hf1 : f 1 = true := he.done 1 (by kernel_rfl)
    have e1 : a.eval (.tmp 3) = .pointer (some ⟨g, 0, none⟩) := (he.val 1 3 (by kernel_rfl) rfl).trans (i1 hf1)
    have hrow := i3 hf2
    have hrd : Rd W A l := HD.out.grown_g HR.out hg
    refine stepOkY_want rfl (op_callFP (vs := #[.pointer (some ⟨g, 0, none⟩), .int .i64 ((32 : Nat) : Int)]) rfl (by simp only [List.map_toArray, List.map_cons, List.map_nil, show a.eval (.const (.int .i64 32)) = .int .i64 ((32 : Nat) : Int) from rfl, e1]) (enters_of Try.func52 (by kernel_rfl) rfl) ?_)
    refine (rtake_any g A n c false l 32 W HN.out hc hcm (by decide) hrow hrd).mono ?_
    rintro e W' (⟨h32, rfl, ⟨D, hD, hDr⟩, hg2⟩ | ⟨h32, rfl, rfl⟩)
    · refine .inl ⟨_, rfl, _, rfl, ?_⟩
      refine ⟨grown_trans hg hg2, ?_, ?_, ?_, ?_⟩
      · intro h; exact i0 h
      · intro h; exact i1 h
      · intro _; exact ⟨h32, rfl, D, hD, hDr⟩
      · intro h; cases h
    · exact .inr ⟨_, rfl, he.defers, hid _ hg, .inr ⟨decide_eq_false (by omega), rfl, k2.grown hg (fun e => h2 (Option.some.inj e)), A, n, c, hrow⟩⟩
  · intro f xs W hI hd _ hk hgt
    obtain ⟨hg, i0, i1, i2, i3⟩ := hI
    have v0 := i0 (hd 0 (by decide))
    obtain ⟨h32, v2, D, hD, hDr⟩ := i2 (hd 2 (by decide))
    have e0 := hgt 0 2 (by decide) (by kernel_rfl)
    have e2 := hgt 2 4 (by decide) (by kernel_rfl)
    rw [v0] at e0
    rw [v2] at e2
    have k21 := k2.grown hg (fun e => h2 (Option.some.inj e))
    have hrd : Rd W A l := HD.out.grown_g HR.out hg
    have hnn := HN.out
    refine ⟨op_copy_rd (.tmp 2) (.tmp 4) 22 22 rfl 5 Try.underlying22 (by kernel_rfl) q2 0 32 32 A 32 c (l.take 32) (by rw [List.length_take]; omega) (Rd.take hrd 32) e0 e2 _ _ k21 32 (by decide) (by rw [hC_size _ (by decide)]; decide) ?_⟩
    intro W' hrow' hg'
    rw [show (l.take 32).take 32 = l.take 32 by rw [List.take_take]; rfl, hC_set l (by omega)] at hrow'
    have hs3 : Same (fun k => k < w.heap.size ∧ k ≠ g ∧ k ≠ q2) w W' := (hid _ hg).trans ((Same.of_grown hg').mono (fun k h => ⟨Nat.lt_of_lt_of_le h.1 hg.size, fun e => h.2.2 (Option.some.inj e)⟩))
    have hD' := hD.grown hg' (fun e => h2 (Option.some.inj e).symm)
    have hl3 : (l.drop 32).length = n - 32 := by rw [List.length_drop, hnn]
    refine ⟨rfl, _, results_none rfl _ _ _, hs3, .inl ⟨decide_eq_true h32, rfl, hrow', D, c - 32, by rw [hl3]; exact hD', by rw [hl3]; omega, by omega, hDr⟩⟩
def Wr.hashR (l : List UInt8) (bad : Bool) : (List UInt8 × Bool) × List UInt8 × Int :=
  if bad then ((l, true), [], 140) else if 32 ≤ l.length then ((l.drop 32, false), l.take 32, 0) else ((l, true), [], 140)
theorem Wr.hashR_eq (l : List UInt8) (bad : Bool) : Wr.tried l (l.drop 32) bad 0 (decide (32 ≤ l.length)) = ((Wr.hashR l bad).1, (Wr.hashR l bad).2.2) := by
  unfold Wr.tried Wr.hashR
  by_cases h : 32 ≤ l.length <;> cases bad <;> simp [h]
theorem Wr.hashR_len (l : List UInt8) (bad : Bool) : (Wr.hashR l bad).2.1 = [] ∨ (Wr.hashR l bad).2.1.length = 32 := by
  unfold Wr.hashR
  by_cases h : 32 ≤ l.length <;> cases bad <;> simp [h]
set_option maxRecDepth 100000 in
theorem hash_any (g : Nat) (l : List UInt8) (bad : Bool) (w : World) (hr : IsRd w g l bad) :
    Calls Try.prog 21 #[.pointer (some ⟨g, 0, none⟩)] w fun e w' => Same (fun k => k < w.heap.size ∧ k ≠ g) w w' ∧ e = .returned (.tuple #[.agg (hC (Wr.hashR l bad).2.1), .int .i64 (Wr.hashR l bad).2.2]) ∧ IsRd w' g (Wr.hashR l bad).1.1 (Wr.hashR l bad).1.2 := by
  obtain ⟨A, c, hrow, hc, hcm, hd⟩ := hr
  have hmf : ∀ (fn : Fn) (first cap : Array Value) (w : World), (Instr.makeFunc fn first cap).run Try.prog w = .ok (.func fn first cap) w := fun _ _ _ _ => rfl
  have k1 := (Row.new w 37 #[.pointer (some ⟨g, 0, none⟩)]).alloc (.cells (hC []) 53)
  have k2 := Row.new (w.alloc (.cells #[.pointer (some ⟨g, 0, none⟩)] 37)) 53 (hC [])
  have kg := (hrow.alloc (.cells #[.pointer (some ⟨g, 0, none⟩)] 37)).alloc (.cells (hC []) 53)
  have hb := below_new2 w (.cells #[.pointer (some ⟨g, 0, none⟩)] 37) (.cells (hC []) 53)
  have hgl := hrow.lt
  have hAl : ∀ b o, A = some ⟨b, o, none⟩ → l ≠ [] → b < w.heap.size := fun b o e h => hd.lt e h
  have HRW := Lib.hid hrow
  clear hrow
  have hvl := Wr.hashR_len l bad
  have htook : (Wr.took bad 0 (decide (32 ≤ l.length)) = true ∧ (Wr.hashR l bad).2.1 = l.take 32) ∨ (Wr.took bad 0 (decide (32 ≤ l.length)) = false ∧ (Wr.hashR l bad).2.1 = []) := by
    unfold Wr.took Wr.hashR
    by_cases h : 32 ≤ l.length <;> cases bad <;> simp [h]
  have hE := Wr.hashR_eq l bad
  generalize Wr.hashR l bad = R at *
  obtain ⟨⟨l', bad'⟩, v, no⟩ := R
  have hvl32 : v.length ≤ 32 := by rcases hvl with h | h; · { simp only at h; rw [h]; decide }; · { simp only at h; omega }
  have HVL := Lib.hid hvl32
  have HTO := Lib.hid htook
  have HE := Lib.hid hE
  clear htook hE hvl hvl32
  go_enter Try.func21, Try.ntmps21
  go_upto_region 1 with (first
    | (with_reducible refine wpList_alloc rfl 53 rfl (allocH _) ?_)
    | fail)
  simp only [World.size_alloc] at k2 ⊢
  obtain ⟨q1, hq1⟩ : ∃ q, q = w.heap.size := ⟨_, rfl⟩
  rw [← hq1] at k1 k2 ⊢
  have HQ := Lib.hid hq1
  clear hq1
  generalize (w.alloc (.cells #[.pointer (some ⟨g, 0, none⟩)] 37)).alloc (.cells (hC []) 53) = w1 at *
  have c1 : w1.cell? ⟨q1, 0, none⟩ = some (.pointer (some ⟨g, 0, none⟩)) := (k1.cell 0).trans rfl
  have hq2l := k2.lt
  have hne : q1 + 1 ≠ g := by have := HQ.out; omega
  have htry := try_moved g A l.length c l (l.drop 32) bad 0 _ #[.pointer (some ⟨q1 + 1, 0, none⟩), .pointer (some ⟨q1, 0, none⟩)] w1 kg rfl hc hcm (q1 + 1) hq2l (fun W => Row W (q1 + 1) 53 (hC [])) (fun W => Row W (q1 + 1) 53 (hC (l.take 32))) k2 (fun _ _ h hs => h.same hs ⟨hq2l, hne⟩) (fun _ _ h hs => h.same hs ⟨hq2l, hne⟩) (enters_of Try.func54 (by kernel_rfl) rfl _) (decide (32 ≤ l.length)) (fun hbad _ W1 hb1 => by
    subst hbad
    exact hashFn_any g q1 (q1 + 1) _ A l.length c l W1 rfl hc hcm (kg.later hb1) (hd.later (Later.step hb hb1)) (k1.later hb1) (k2.later hb1) (by have := HQ.out; omega) hne (by omega) (fun b o e h => by have := hAl b o e h; have := HQ.out; omega))
  rw [HE.out] at htry
  go_upto_region 2 with (first
    | (go_at_call 47; refine htry.mono ?_; clear htry; rintro e w2 ⟨hs, rfl, hm, hR1, hR0⟩)
    | fail)
  have k22 : Row w2 (q1 + 1) 53 (hC v) := by
    rcases HTO.out with ⟨h, h'⟩ | ⟨h, h'⟩
    · have := hR1 h
      rw [h']
      exact this
    · have := hR0 h
      rw [h']
      exact this
  have hld := loadHz HVL.out k22
  obtain ⟨w3, hst, k23, hg3⟩ := storeH (b := v) HVL.out HVL.out k22
  have HM := Lib.hid hm
  have HS := Lib.hid hs
  clear hm hs hR1 hR0
  go_wp2_with (first
    | (refine wpList_load rfl 53 (.tmp 2) rfl (.pointer (some ⟨q1 + 1, 0, none⟩)) rfl hld ?_)
    | (refine wpList_store rfl 53 (.tmp 2) (.tmp 7) rfl (.pointer (some ⟨q1 + 1, 0, none⟩)) (.agg (hC v)) rfl rfl hst ?_)
    | fail)
  have hq := HQ.out
  have hs0 : Same (fun k => k < w.heap.size ∧ k ≠ g) w w3 := (((Same.of_below hb).mono (fun k h => h.1)).trans (HS.out.mono (fun k h => ⟨Nat.lt_of_lt_of_le h.1 hb.size, h.2, by have := h.1; omega⟩))).trans ((Same.of_grown hg3).mono (fun k h => ⟨Nat.lt_of_lt_of_le h.1 (Nat.le_trans hb.size HS.out.size), fun e => by have := Option.some.inj e; have := h.1; omega⟩))
  have hmv : Moved w3 g A l l' bad' := HM.out.same (Same.of_grown hg3) ⟨Nat.lt_of_lt_of_le hgl (Nat.le_trans hb.size HS.out.size), fun e => hne (Option.some.inj e).symm⟩
  exact bodyPost_ret (results_cell_tmp rfl _ _ (q1 + 1) 53 (hC v) (0, 0) _ (.int .i64 no) rfl rfl k23 Try.underlying53 rfl (by rw [hC_size _ HVL.out]; exact infoH)) rfl ⟨hs0, rfl, hmv.isRd (rd_same_g HRW.out hd hs0)⟩
end Go.Proofs.Ytmipaacobioakaa
