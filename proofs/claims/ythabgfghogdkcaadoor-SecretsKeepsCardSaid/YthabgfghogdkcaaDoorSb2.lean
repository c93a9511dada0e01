/- Joined: ShaR2, ShaR3, ShaR4, ShaR5. -/
import Derived.Test.YthabgfghogdkcaaDoorSb1
set_option linter.unusedVariables false
set_option linter.unusedSimpArgs false
namespace Go.Proofs.YthabgfghogdkcaaDoor
open Go.RowKit
section
variable {P : Program} {Q : Exit → Act → World → Prop}
theorem last_callF {o : Oper} {a : Act} {W : World} {f : FuncId} {xs : Array Operand} {ts : Array TypeId} {vs : Array Value} (ho : o.op = .call { callee := .value (.func f), args := xs, argTypes := ts }) (hv : xs.map a.eval = vs) (eg : ∀ args w, (callFunc f args).run P w = .ok (.enter f args) w)
    (h : Calls P f vs W fun e W' => ∃ v, e = .returned v ∧ Q .normal (a.put o.dst v) W') : LastOk P o a W Q := ⟨by
  have hr : ((do let d ← resolve a.eval { callee := .value (.func f), args := xs, argTypes := ts } o.type; invoke d.target d.args) : Sem Next).run P W = .ok (.enter f vs) W := by
    simp [resolve, invoke, go_sem, hv, eg, Act.eval]
  unfold Oper.wp execOp
  simp only [ho]
  rw [hr]
  exact h.mono fun e W' ⟨v, he, hq⟩ => by subst he; exact hq⟩
end
def firstParts : Array (Nat × Value) := #[(0, wordV Sha.first.a), (1, wordV Sha.first.b), (2, wordV Sha.first.c), (3, wordV Sha.first.d), (4, wordV Sha.first.e), (5, wordV Sha.first.f), (6, wordV Sha.first.g), (7, wordV Sha.first.h)]
theorem buildFirst (w : World) : (Instr.build 90 firstParts).run Tryd.prog w = .ok (.agg (stC Sha.first 0)) w := by kernel_rfl
theorem first_any (w : World) : Calls Tryd.prog 79 #[] w fun e w' => e = .returned (.agg (stC Sha.first 0)) ∧ w.alloc (.cells (stC Sha.first 0) 90) = w' := by
  go_enter Tryd.func79, Tryd.ntmps79
  go_wp2_with (first
    | (with_reducible refine wpList_alloc rfl 90 rfl (alloc8 _) ?_)
    | (refine wpList_buildC rfl 90 _ rfl firstParts (by kernel_rfl) (buildFirst _) ?_)
    | (refine wpList_store rfl 90 (.tmp 0) (.tmp 1) rfl (.pointer (some ⟨w.heap.size, 0, none⟩)) (.agg (stC Sha.first 0)) rfl rfl (storeS Sha.first _) ?_))
  refine bodyPost_ret (results_cell_row rfl _ _ w.heap.size 90 (stC Sha.first 0) (0, 0) _ rfl (Row.new w 90 (stC Sha.first 0)) Tryd.underlying90 rfl (by rw [stC_size]; exact info8)) rfl ⟨rfl, rfl⟩
def run0 : Array Value := runC Sha.first (Sha.zeros 64) 0
theorem buildPress (w : World) : (Instr.build 125 #[(0, .agg (stC Sha.first 0))]).run Tryd.prog w = .ok (.agg (stC Sha.first 0)) w := by kernel_rfl
theorem buildRun (w : World) : (Instr.build 127 #[(0, .agg (stC Sha.first 0)), (3, .bool true)]).run Tryd.prog w = .ok (.agg run0) w := by kernel_rfl
theorem boxRun (w : World) : (Instr.box 127 (.agg run0)).run Tryd.prog w = .ok (.pointer (some ⟨w.heap.size, 0, none⟩)) (w.alloc (.cells run0 127)) := by kernel_rfl
theorem wpList_box {P : Program} {ops : Array Oper} {rest : List Oper} {o : Oper} {a : Act} {w : World} {Q : Exit → Act → World → Prop} (hgd : o.guard = none) (T : TypeId) (x : Operand) (ho : o.op = .box T x) (vx : Value) (hx : a.eval x = vx) {v : Value} {w' : World} (hr : (Instr.box T vx).run P w = .ok v w')
    (h : wpList P ops Q rest (a.put o.dst v) w') : wpList P ops Q (o :: rest) a w :=
  wpList_plain hgd fun _ hK => by
    unfold Oper.wp execOp
    simp only [ho, Sem.run_bind, Sem.run_pure, Result.andThen_ok, hx, hr]
    exact hK _ _ h
set_option maxRecDepth 100000 in
theorem new_any (w : World) : Calls Tryd.prog 57 #[] w fun e w' => ∃ g, e = .returned (.pointer (some ⟨g, 0, none⟩)) ∧ IsRun w' g [] ∧ w.heap.size ≤ g ∧ Below w.heap.size w w' := by
  go_enter Tryd.func57, Tryd.ntmps57
  go_wp2_with (first
    | (go_at_call 79; refine (first_any _).mono ?_; rintro e w1 ⟨rfl, rfl⟩)
    | (refine wpList_build1 rfl 125 0 (.tmp 1) rfl (.agg (stC Sha.first 0)) rfl (buildPress _) ?_)
    | (refine wpList_buildC rfl 127 _ rfl #[(0, .agg (stC Sha.first 0)), (3, .bool true)] (by first | rfl | kernel_rfl) (buildRun _) ?_)
    | (refine wpList_box rfl 127 (.tmp 3) rfl (.agg run0) rfl (boxRun _) ?_))
  go_ret
  refine ⟨_, rfl, ⟨Sha.zeros 64, by simp [Sha.zeros], by simp [Sha.left], ?_⟩, ?_, ?_⟩
  · have e : runC (Sha.state []) (Sha.zeros 64) ([] : List UInt8).length = run0 := rfl
    rw [e]
    exact Row.newAt (by simp only [World.size_alloc])
  · omega
  · exact ((below_new w _).alloc (by simp only [World.size_alloc]; omega) _)
theorem none_no (g : Nat) (l : List UInt8) (w : World) (h : IsRun w g l) : Calls Tryd.prog 80 #[.pointer (some ⟨g, 0, none⟩)] w fun e w' => e = .returned (.bool false) ∧ w = w' := by
  obtain ⟨p, hp, _, hr⟩ := h
  have hc : w.cell? ⟨g, 73, none⟩ = some (.bool true) := (hr.cell 73).trans (runC_get73 _ _ _ hp)
  clear hr
  go_enter Tryd.func80, Tryd.ntmps80
  go_wp2
  go_ret
  exact ⟨rfl, rfl⟩
end Go.Proofs.YthabgfghogdkcaaDoor
namespace Go.Proofs.YthabgfghogdkcaaDoor
open Go.RowKit
theorem info5 : (Tryd.prog.info? 5).map (fun i => (i.zero, i.size, i.bytes)) = some (some (.int .u8 0), 1, 1) := by kernel_rfl
theorem sliceArr {g o a : Nat} {i : Int} (hi : i = (a : Int)) (h : a < 64) (W : World) : (Instr.sliceAt 94 (.pointer (some ⟨g, o, none⟩)) (some (.int .i64 i)) none none).run Tryd.prog W = .ok (.slice (some ⟨g, o + a, none⟩) (64 - a) (64 - a)) W := by
  subst hi
  obtain ⟨i, hi0, hz, hs, hb⟩ := info_parts info5
  have h1 : (a : Int) ≤ 64 := by omega
  have h2 : (0 : Int) ≤ (a : Int) := by omega
  have h3 : ¬ 64 = a := by omega
  simp [Instr.sliceAt, run_underlying Tryd.underlying94, Instr.sliceBounds, Instr.sliceBound, asIntOf, h1, h2, h3, sizeOf, typeInfo, hi0, hs]
  rw [show (Instr.sureAddr (Value.pointer (some ⟨g, o, none⟩))).run Tryd.prog W = .ok ⟨g, o, none⟩ W from rfl]
  simp only [Result.andThen_ok]
  rw [if_pos (by omega)]
  simp [Addr.add]
theorem fieldR0 {b : Nat} {W : World} : (Instr.fieldAt 127 (.pointer (some ⟨b, 0, none⟩)) 0).run Tryd.prog W = .ok (.pointer (some ⟨b, 0, none⟩)) W := by go_simp
theorem fieldR1 {b : Nat} {W : World} : (Instr.fieldAt 127 (.pointer (some ⟨b, 0, none⟩)) 1).run Tryd.prog W = .ok (.pointer (some ⟨b, 8, none⟩)) W := by go_simp
theorem sliceAll {g o : Nat} (W : World) : (Instr.sliceAt 94 (.pointer (some ⟨g, o, none⟩)) none none none).run Tryd.prog W = .ok (.slice (some ⟨g, o, none⟩) 64 64) W := by
  obtain ⟨i, hi0, hz, hs, hb⟩ := info_parts info5
  simp [Instr.sliceAt, run_underlying Tryd.underlying94, Instr.sliceBounds, sizeOf, typeInfo, hi0, hs]
  rw [show (Instr.sureAddr (Value.pointer (some ⟨g, o, none⟩))).run Tryd.prog W = .ok ⟨g, o, none⟩ W from rfl]
  simp [Addr.add]
theorem run_slice_from2 {P : Program} {t U : TypeId} {A : Option Addr} {n ca k : Nat} (ht : P.underlying t = some (.slice U)) (hi : ByteInfo P U) (h1 : k ≤ n) (h2 : n ≤ ca) :
    ∃ D, (∀ w : World, (Instr.slice t (.slice A n ca) (some (.int .i64 (k : Int))) none none).run P w = .ok (.slice D (n - k) (ca - k)) w) ∧ (∀ (W : World) (l : List UInt8), l.length = n → Rd W A l → Rd W D (l.drop k)) ∧ ∀ ad, D = some ad → ∃ ad', A = some ad' ∧ ad'.block = ad.block := by
  obtain ⟨i, hi0, hz, hs, hb⟩ := info_parts hi
  have he : P.elem t = U := by simp [Program.elem, ht]
  have ht' : P.underlying t = some (.slice (P.elem t)) := by rw [he]; exact ht
  refine ⟨if ca = k then A else A.map (·.add (k * 1)), fun w => ?_, fun W l hl hr => ?_, fun ad e => ?_⟩
  · rw [run_slice_l w t A n ca ht' .i64 (k : Int) (by omega) (by omega), he]
    simp [sizeOf, typeInfo, hi0, hs, sliced]
  · by_cases h : ca = k
    · have : l.drop k = [] := List.drop_eq_nil_of_le (by omega)
      rw [this]
      exact Rd.nil _ _
    · rw [if_neg h, Nat.mul_one]
      intro hne
      obtain ⟨b, o, e, hc⟩ := hr (by intro e; subst e; simp at hne)
      subst e
      refine ⟨b, o + k, by unfold Addr.add; simp, fun i hi' => ?_⟩
      rw [List.getElem_drop, Nat.add_assoc]
      exact hc (k + i) (by rw [List.length_drop] at hi'; omega)
  · split at e
    · exact ⟨ad, e, rfl⟩
    · rcases A with _ | x
      · cases e
      · refine ⟨x, rfl, ?_⟩
        have e2 : x.add (k * 1) = ad := Option.some.inj e
        rw [← e2]
        unfold Addr.add
        split <;> rfl
def lenV : Value → Nat
  | .slice _ n _ => n
  | _ => 0
set_option maxRecDepth 100000 in
set_option maxHeartbeats 4000000 in
theorem write_any (g : Nat) (l : List UInt8) (A : Option Addr) (n c : Nat) (b : List UInt8) (w : World) (hrun : IsRun w g l) (hb : b.length = n) (hcap : n ≤ c) (hmc : c ≤ 9223372036854775807) (hr : Rd w A b) (hne : ∀ ad, A = some ad → b ≠ [] → ad.block ≠ g) (hmax : l.length + n ≤ 1099511627776) :
    Calls Tryd.prog 58 #[.pointer (some ⟨g, 0, none⟩), .slice A n c] w fun e w' => e = .returned (.int .i64 0) ∧ IsRun w' g (l ++ b) ∧ w.grownBy w' (some g) := by
  have HB := Lib.hid hb
  have HRUN := Lib.hid hrun
  have HNE := Lib.hid hne
  clear hb hne
  go_enter Tryd.func58, Tryd.ntmps58
  go_wp2_with (first | (go_at_call 80; refine (none_no g l _ hrun).mono ?_; rintro e w' ⟨rfl, rfl⟩))
  clear hrun
  go_loopw [1, 5, 6] (fun s _ _ wr => ∃ (j : Nat) (Aj : Option Addr) (cj : Nat), j ≤ n ∧ s = .slice Aj (n - j) cj ∧ n - j ≤ cj ∧ cj ≤ 9223372036854775807 ∧ Rd wr Aj (b.drop j) ∧ (∀ ad, Aj = some ad → b.drop j ≠ [] → ad.block ≠ g) ∧ IsRun wr g (l ++ b.take j) ∧ w.grownBy wr (some g)) (fun s _ _ _ => lenV s)
  case atStart => exact ⟨0, A, c, by omega, rfl, by omega, by omega, by simpa using hr, by simpa using HNE.out, by simpa using HRUN.out, grown_refl _ _⟩
  case round =>
    obtain ⟨j, Aj, cj, hj, rfl, hcj, hmj, hrj, hnj, hrn, hgj⟩ := hrel
    clear hr
    obtain ⟨q, hq⟩ : ∃ q, l ++ b.take j = q := ⟨_, rfl⟩
    obtain ⟨bj, hbj⟩ : ∃ q, b.drop j = q := ⟨_, rfl⟩
    have hbl : bj.length = n - j := by rw [← hbj, List.length_drop, HB.out]
    have hql : q.length = l.length + j := by rw [← hq, List.length_append, List.length_take, HB.out]; omega
    rw [hq] at hrn
    rw [hbj] at hrj hnj
    obtain ⟨m, hm⟩ : ∃ m, n - j = m := ⟨_, rfl⟩
    rw [hm] at hbl hcj ⊢
    by_cases h0 : 0 < m
    · obtain ⟨p, hp, hpl, hrow⟩ := hrn
      obtain ⟨at_, hat⟩ : ∃ a, q.length % 64 = a := ⟨_, rfl⟩
      obtain ⟨k, hk⟩ : ∃ k, min m (64 - at_) = k := ⟨_, rfl⟩
      have hc72 := (hrow.cell 72).trans (runC_get72 _ _ _ hp)
      have hf72 := hrow.frozen 72
      rw [hat] at hpl
      have hat64 : at_ < 64 := by omega
      have hqb : q.length ≤ 1099511627776 := by omega
      have hqi : ((q.length : Nat) : Int) % 64 = (at_ : Int) := by omega
      obtain ⟨came, hcame⟩ : ∃ c, q.length = c := ⟨_, rfl⟩
      rw [hcame] at hc72 hqb hqi hrow
      have HQ := Lib.hid hcame
      have HK := Lib.hid hk
      have HQQ := Lib.hid hq
      have HBJ := Lib.hid hbj
      have HM := Lib.hid hm
      have HQL := Lib.hid hql
      have HAT := Lib.hid hat
      have HPL := Lib.hid hpl
      clear hcame hk hq hbj hm hql hat hpl
      have hsl := fun w' : World => sliceArr (g := g) (o := 8) (i := (at_ : Int)) rfl hat64 w'
      have hkm : k ≤ m := by have := HK.out; omega
      have hk64 : at_ + k ≤ 64 := by have := HK.out; omega
      obtain ⟨D, hslD, hDr, hDa⟩ := run_slice_from2 (P := Tryd.prog) (A := Aj) Tryd.underlying40 (info5 : ByteInfo Tryd.prog 5) hkm hcj
      have HDR := Lib.hid hDr
      have HDA := Lib.hid hDa
      obtain ⟨p2, hp2⟩ : ∃ p2, p.take at_ ++ (bj.take k ++ p.drop (at_ + k)) = p2 := ⟨_, rfl⟩
      have hbk : (bj.take k).length = k := by rw [List.length_take, hbl]; omega
      have hp2l : p2.length = 64 := by rw [← hp2]; simp only [List.length_append, List.length_take, List.length_drop, hp, hbl]; omega
      have hpart := runC_part (Sha.state q) p (bj.take k) came at_ hp (by rw [hbk]; exact hk64)
      rw [hbk, hp2] at hpart
      have hcm := runC_came (Sha.state q) p2 came (came + k) hp2l
      have hjn : bj.drop k = b.drop (j + k) := by rw [← HBJ.out, List.drop_drop]
      have hqn : q ++ bj.take k = l ++ b.take (j + k) := by rw [← HQQ.out, List.append_assoc, ← HBJ.out, List.take_add]
      have hqbl : (q ++ bj.take k).length = came + k := by rw [List.length_append, hbk, HQ.out]
      have HPART := Lib.hid hpart
      have HCM := Lib.hid hcm
      have HJN := Lib.hid hjn
      have HQN := Lib.hid hqn
      have HQBL := Lib.hid hqbl
      have HP2 := Lib.hid hp2
      have HBK := Lib.hid hbk
      have hcb : came + k ≤ 1099511627776 := by have := HM.out; have := HQL.out; have := HQ.out; omega
      clear hDr hDa hp2 hbk hpart hcm hjn hqn hqbl
      by_cases h64 : at_ + k = 64
      · have hb64 : (((at_ : Int) + (k : Int)) == 64) = true := by rw [beq_iff_eq]; omega
        have hstf := Sha.state_full q (bj.take k) (by rw [HBK.out, HAT.out]; exact h64)
        have hp2f : p2 = Sha.left q ++ bj.take k := by rw [← HP2.out, h64, List.drop_eq_nil_of_le (by omega), List.append_nil, HPL.out]
        rw [← hp2f] at hstf
        have HSTF := Lib.hid hstf
        have H64 := Lib.hid h64
        clear hstf hp2f h64
        go_upto_region 9 with (first
          | (refine wpList_copy_rd rfl (.tmp 21) (.tmp 22) 40 40 rfl 5 Tryd.underlying40 (by kernel_rfl) g (8 + at_) (64 - at_) (64 - at_) Aj m cj bj hbl hrj (by rfl) (by rfl) _ _ hrow k HK.out (by rw [runC_size _ _ _ hp]; have := HK.out; omega) ?_; intro w2 hrow2 hg2; rw [HPART.out] at hrow2; have hc72' := (hrow2.cell 72).trans (runC_get72 _ _ _ hp2l); have hf72' := hrow2.frozen 72))
        have hrow3 := hrow2.set 72 (intV (came + k))
        rw [HCM.out] at hrow3
        have hg3 := grown_trans hg2 (grown_set w2 g 72 (intV (came + k)))
        have hrd3 := HDR.out wr bj hbl hrj
        have hne3 : ∀ ad, D = some ad → bj.drop k ≠ [] → ad.block ≠ g := fun ad e hd => by
          obtain ⟨ad', e', eb⟩ := HDA.out ad e
          rw [← eb]
          exact hnj ad' e' (fun e2 => hd (by rw [e2]; simp))
        have hne4 : ∀ bb oo, D = some ⟨bb, oo, none⟩ → bj.drop k ≠ [] → some bb ≠ some g := fun bb oo e hd he => hne3 _ e hd (Option.some.inj he)
        have hrd4 := hrd3.grown hg3 hne4
        rw [show ((came : Int) + (k : Int)) = ((came + k : Nat) : Int) from by omega]
        generalize w2.setCell ⟨g, 72, none⟩ (intV (came + k)) = w3 at *
        refine (wpIn_wide (n := 0)).1 ?_
        refine wpIn_region_last wide_wide [Pr.eq (.pointer (some ⟨g, 0, none⟩)), Pr.eq (.pointer (some ⟨g, 0, none⟩)), Pr.eq (.pointer (some ⟨g, 0, none⟩)), Pr.eq (.pointer (some ⟨g, 0, none⟩)), Pr.eq (.pointer (some ⟨g, 0, none⟩)), Pr.eq (.pointer (some ⟨g, 8, none⟩)), Pr.eq (.slice (some ⟨g, 8, none⟩) 64 64)] (by kernel_rfl) (by kernel_rfl) (by kernel_rfl) (by kernel_rfl) (by kernel_rfl) (by kernel_rfl) rfl ⟨?_, ?_, ?_, ?_, ?_, ?_, ?_, trivial⟩ ?_
        · exact fun ac W hL he => stepOk_want rfl (op_move rfl (he.keep (.tmp 0) (by kernel_rfl)))
        · exact fun ac W hL he => stepOk_want rfl (op_nil rfl (he.get 0 39 (by kernel_rfl) rfl) rfl)
        · exact fun ac W hL he => stepOk_want rfl (op_fieldAddr rfl (he.get 1 40 (by kernel_rfl) rfl) fieldR0 rfl)
        · exact fun ac W hL he => stepOk_want rfl (op_move rfl (he.keep (.tmp 0) (by kernel_rfl)))
        · exact fun ac W hL he => stepOk_want rfl (op_nil rfl (he.get 3 42 (by kernel_rfl) rfl) rfl)
        · exact fun ac W hL he => stepOk_want rfl (op_fieldAddr rfl (he.get 4 43 (by kernel_rfl) rfl) fieldR1 rfl)
        · exact fun ac W hL he => stepOk_want rfl (op_slice (W' := W) rfl (he.get 5 44 (by kernel_rfl) rfl) (rfl : _ = none) (rfl : _ = none) rfl (sliceAll W) rfl)
        · intro xs w4 hL4 hx hk hg
          have e1 := hg 2 41 (by decide) (by kernel_rfl)
          have e2 := hg 6 45 (by decide) (by kernel_rfl)
          have v1 : xs 2 = .pointer (some ⟨g, 0, none⟩) := hx 2 (by decide)
          have v2 : xs 6 = .slice (some ⟨g, 8, none⟩) 64 64 := hx 6 (by decide)
          rw [v1] at e1
          rw [v2] at e2
          have hrow4 := hrow3.later hL4
          clear hx hk hg v1 v2
          refine last_callF (vs := #[.pointer (some ⟨g, 0, none⟩), .slice (some ⟨g, 8, none⟩) 64 64]) rfl (by simp only [List.map_toArray, List.map_cons, List.map_nil, e1, e2]) (enters_of Tryd.func81 (by kernel_rfl) rfl) ?_
          refine (block_any g 0 127 _ (Sha.state q) (some ⟨g, 8, none⟩) 64 p2 w4 hp2l (by omega) (by omega) (runC_rd hp2l hrow4) hrow4 (fun i hi => runC_state _ _ _ i hi)).mono ?_
          rintro e w5 ⟨rfl, hrow5, hg5⟩
          refine ⟨_, rfl, ?_⟩
          rw [runC_st, ← HSTF.out.1] at hrow5
          have hgA : wr.grownBy w5 (some g) := grown_trans hg3 (grown_trans (later_grown hL4 g) hg5)
          have hrd5 := (hrd4.later hL4).grown hg5 hne4
          have hir : IsRun w5 g (q ++ bj.take k) := ⟨p2, hp2l, by rw [HSTF.out.2, HQBL.out, show (came + k) % 64 = 0 from by have := HAT.out; have := HQ.out; have := H64.out; omega]; rfl, by rw [HQBL.out]; exact hrow5⟩
          rw [HQN.out] at hir
          rw [HJN.out] at hrd5 hne3
          clear hne4
          have hgB := grown_trans hgj hgA
          clear e1 e2 hrow2 hg2 hc72' hf72' hrow3 hg3 hrd3 hrd4 hrow4 hrow5 hg5 hgA
          simp only [initL, lastL, putL, Nat.reduceAdd, Act.put, List.setIfInBounds_toArray, List.set_cons_succ, List.set_cons_zero]
          go_wp2_with fail
          go_roundw
          case rel => exact ⟨j + k, D, cj - k, by have := HM.out; omega, by rw [show n - (j + k) = m - k from by have := HM.out; omega], by have := HM.out; omega, by omega, hrd5, hne3, hir, hgB⟩
          case measure => simp [lenV]; have := HK.out; omega
      · have hb64 : (((at_ : Int) + (k : Int)) == 64) = false := by rw [beq_eq_false_iff_ne]; omega
        have hstf := Sha.state_part q (bj.take k) (by rw [HBK.out, HAT.out]; omega)
        have hkm' : k = m := by have := HK.out; omega
        have hp2f : p2.take (at_ + k) = Sha.left q ++ bj.take k := by
          rw [← HP2.out, HPL.out, List.take_append, List.take_append, Sha.left_len, HAT.out, HBK.out]
          rw [List.take_of_length_le (by rw [Sha.left_len, HAT.out]; omega), List.take_of_length_le (l := bj.take k) (by rw [HBK.out]; omega), show at_ + k - at_ - k = 0 from by omega, List.take_zero, List.append_nil]
        have H64 := Lib.hid h64
        have HSTF := Lib.hid hstf
        have HP2F := Lib.hid hp2f
        have HKM := Lib.hid hkm'
        clear hstf hp2f h64 hkm'
        have hne3 : ∀ ad, D = some ad → bj.drop k ≠ [] → ad.block ≠ g := fun ad e hd => by
          obtain ⟨ad', e', eb⟩ := HDA.out ad e
          rw [← eb]
          exact hnj ad' e' (fun e2 => hd (by rw [e2]; simp))
        have hne4 : ∀ bb oo, D = some ⟨bb, oo, none⟩ → bj.drop k ≠ [] → some bb ≠ some g := fun bb oo e hd he => hne3 _ e hd (Option.some.inj he)
        have HN3 := Lib.hid hne3
        have HN4 := Lib.hid hne4
        have hrd3 := HDR.out wr bj hbl hrj
        clear hne3 hne4
        go_wp2_with (first
          | (refine wpList_copy_rd rfl (.tmp 21) (.tmp 22) 40 40 rfl 5 Tryd.underlying40 (by kernel_rfl) g (8 + at_) (64 - at_) (64 - at_) Aj m cj bj hbl hrj (by rfl) (by rfl) _ _ hrow k HK.out (by rw [runC_size _ _ _ hp]; have := HK.out; omega) ?_; intro w2 hrow2 hg2; rw [HPART.out] at hrow2; have hc72' := (hrow2.cell 72).trans (runC_get72 _ _ _ hp2l); have hf72' := hrow2.frozen 72))
        have hrow3 := hrow2.set 72 (intV (came + k))
        rw [HCM.out] at hrow3
        have hg3 := grown_trans hg2 (grown_set w2 g 72 (intV (came + k)))
        have hrd4 := hrd3.grown hg3 HN4.out
        have hne3 := HN3.out
        have hgB := grown_trans hgj hg3
        have hir : IsRun (w2.setCell ⟨g, 72, none⟩ (intV (came + k))) g (q ++ bj.take k) := ⟨p2, hp2l, by rw [HSTF.out.2, HQBL.out, show (came + k) % 64 = at_ + k from by have := HAT.out; have := HQ.out; have := H64.out; omega]; exact HP2F.out, by rw [HSTF.out.1, HQBL.out]; exact hrow3⟩
        rw [HQN.out] at hir
        rw [HJN.out] at hrd4 hne3
        rw [show ((came : Int) + (k : Int)) = ((came + k : Nat) : Int) from by omega]
        go_roundw
        case rel => exact ⟨j + k, D, cj - k, by have := HM.out; omega, by rw [show n - (j + k) = m - k from by have := HM.out; omega], by have := HM.out; omega, by omega, hrd4, hne3, hir, hgB⟩
        case measure => simp [lenV]; have := HK.out; omega
    · obtain rfl : m = 0 := by omega
      have hjn : j = n := by omega
      subst hjn
      rw [← hq, List.take_of_length_le (by rw [HB.out]; omega)] at hrn
      clear hq hbj hbl hql hrj hnj
      go_wp2
      go_ret
      exact ⟨rfl, hrn, hgj⟩
end Go.Proofs.YthabgfghogdkcaaDoor
namespace Go.Proofs.YthabgfghogdkcaaDoor
open Go.RowKit
theorem Rd.byte1 {w : World} {t : TypeId} {z : Int} {c : UInt8} (h : z = (c.toNat : Int)) : Rd (w.alloc (.cells #[.int .u8 z] t)) (some ⟨w.heap.size, 0, none⟩) [c] := by
  subst h; exact Rd.lit w t [c]
theorem told_val (n i : Nat) : (n : Int) / 2 ^ (8 * i) % 256 = ((UInt8.ofNat (n / 256 ^ i)).toNat : Int) := by
  rw [UInt8.toNat_ofNat', show (2 : Int) ^ (8 * i) = ((256 ^ i : Nat) : Int) from by rw [Int.pow_mul, Int.natCast_pow]; rfl]
  omega
theorem told_take (n many i : Nat) (h : i < many) : (Sha.told n many).take (many - i) = (Sha.told n many).take (many - (i + 1)) ++ [UInt8.ofNat (n / 256 ^ i)] := by
  rw [show many - i = (many - (i + 1)) + 1 from by omega, List.take_succ_eq_append_getElem (by rw [Sha.told_len]; omega)]
  congr 2
  simp only [Sha.told, List.getElem_map, List.getElem_range]
  congr 3
  omega
set_option maxHeartbeats 400000 in
theorem told_any (n many : Nat) (w : World) (hn : n < 18446744073709551616) (hm : many ≤ 8) :
    Calls Tryd.prog 82 #[.int .u64 (n : Int), .int .i64 (many : Int)] w fun e w' => ∃ v, e = .returned v ∧ Own 5 w' w.heap.size v (Sha.told n many) ∧ Below w.heap.size w w' := by
  go_enter Tryd.func82, Tryd.ntmps82
  go_wp2
  go_loopw [4, 5] (fun v t wr => ∃ r : Nat, r ≤ many ∧ t = .int .i64 ((r : Int) - 1) ∧ Own 5 wr w.heap.size v ((Sha.told n many).take (many - r)) ∧ Below w.heap.size w wr) (fun _ t _ => (intOf t + 1).toNat)
  case atStart => exact ⟨many, by omega, rfl, by rw [Nat.sub_self]; exact Own.nil _ _ _, Below.refl _ _⟩
  case round =>
    obtain ⟨r, hk, rfl, hown, hb⟩ := hrel
    rcases r with _ | i
    · rw [Nat.sub_zero, List.take_of_length_le (by rw [Sha.told_len]; omega)] at hown
      go_wp2
      go_ret
      exact ⟨_, rfl, hown, hb⟩
    · rw [show (((i + 1 : Nat) : Int) - 1) = (i : Int) from by omega]
      have HN := Lib.hid (told_take n many i (by omega))
      have hlen : ((Sha.told n many).take (many - (i + 1))).length ≤ 8 := by rw [List.length_take, Sha.told_len]; omega
      generalize (Sha.told n many).take (many - (i + 1)) = acc at *
      go_wp2_with (first
        | (at_builtin; refine wpList_append_bytes rfl (.tmp 12) (.tmp 18) 40 rfl w.heap.size 5 Tryd.underlying40 (info5 : ByteInfo Tryd.prog 5) _ acc rfl (hown.alloc _) (some ⟨wr.heap.size, 0, none⟩) 1 1 [UInt8.ofNat (n / 256 ^ i)] rfl rfl (Rd.byte1 ?hz) (by omega) (by have := hb.size; simp; omega) ?_; rotate_left; intro v2 w2 hown2 hg2 hat2))
      case hz => exact told_val n i
      go_roundw
      case rel => exact ⟨i, by omega, rfl, by rw [HN.out]; exact hown2, (hb.alloc hb.size _).grown hg2 (by have := hb.size; simp; omega) (fun j hj => (hown.at_ j hj).1)⟩
      case measure => simp [intOf]
end Go.Proofs.YthabgfghogdkcaaDoor
namespace Go.Proofs.YthabgfghogdkcaaDoor
open Go.RowKit
theorem eqg_mul {T : TypeId} {x y : Operand} {vx vy : Value} {P : Program} {W : World} : (eqGuard .mul T x y vx vy).run P W = .ok () W := rfl
theorem mulI4 {k : Nat} {W : World} (h : k < 8) : (binOp .mul 3 (.int .i64 4) (.int .i64 (k : Int))).run Tryd.prog W = .ok (.int .i64 ((4 * k : Nat) : Int)) W := by
  have h1 : (binOp .mul 3 (.int .i64 4) (.int .i64 (k : Int))).run Tryd.prog W = .ok (.int .i64 (IntKind.i64.wrap (4 * (k : Int)))) W := by kernel_rfl
  rw [h1, IntWalk.i64_in _ (by omega)]
  congr 2
theorem conv32 (x : BitVec 32) (W : World) : (convert 88 97 (.int .u32 (x.toNat : Int))).run Tryd.prog W = .ok (.int .u64 (x.toNat : Int)) W := by
  have hx := x.isLt
  go_simp
  simp [IntKind.wrap, IntKind.bits, IntKind.signed]
  omega
theorem told4_any (n : Nat) (w : World) (hn : n < 18446744073709551616) : Calls Tryd.prog 82 #[.int .u64 (n : Int), .int .i64 4] w fun e w' => ∃ v, e = .returned v ∧ Own 5 w' w.heap.size v (Sha.told n 4) ∧ Below w.heap.size w w' := told_any n 4 w hn (by decide)
theorem told8_any (n : Nat) (w : World) (hn : n * 8 < 18446744073709551616) : Calls Tryd.prog 82 #[.int .u64 ((n : Int) * 8), .int .i64 8] w fun e w' => ∃ v, e = .returned v ∧ Own 5 w' w.heap.size v (Sha.told (n * 8) 8) ∧ Below w.heap.size w w' := told_any (n * 8) 8 w hn (by decide)
theorem sliceH {g a : Nat} (h : a < 32) (W : World) : (Instr.sliceAt 23 (.pointer (some ⟨g, 0, none⟩)) (some (.int .i64 (a : Int))) none none).run Tryd.prog W = .ok (.slice (some ⟨g, a, none⟩) (32 - a) (32 - a)) W := by
  obtain ⟨i, hi0, hz, hs, hb⟩ := info_parts info5
  have h1 : (a : Int) ≤ 32 := by omega
  have h2 : (0 : Int) ≤ (a : Int) := by omega
  have h3 : ¬ 32 = a := by omega
  simp [Instr.sliceAt, run_underlying Tryd.underlying23, Instr.sliceBounds, Instr.sliceBound, asIntOf, h1, h2, h3, sizeOf, typeInfo, hi0, hs]
  rw [show (Instr.sureAddr (Value.pointer (some ⟨g, 0, none⟩))).run Tryd.prog W = .ok ⟨g, 0, none⟩ W from rfl]
  simp only [Result.andThen_ok]
  rw [if_pos (by omega)]
  simp [Addr.add]
  intro h0
  exact h0.symm
/-- A hash of which some bytes have been laid. -/
def hC (b : List UInt8) : Array Value := ((b ++ Sha.zeros (32 - b.length)).map byteV).toArray
theorem hC_copy (b d : List UInt8) (h : b.length + d.length ≤ 32) : setFrom (hC b) b.length (d.map byteV) = hC (b ++ d) := by
  have := setFrom_mid (b.map byteV) ((Sha.zeros d.length).map byteV) ((Sha.zeros (32 - b.length - d.length)).map byteV) (d.map byteV) b.length (by simp) (by simp [Sha.zeros])
  unfold hC
  rw [show Sha.zeros (32 - b.length) = Sha.zeros d.length ++ Sha.zeros (32 - b.length - d.length) from by unfold Sha.zeros; rw [List.replicate_append_replicate]; congr 1; omega]
  simp only [List.map_append, List.append_assoc, List.length_append] at this ⊢
  rw [this, show 32 - (b.length + d.length) = 32 - b.length - d.length from by omega]
theorem hC_size (b : List UInt8) (h : b.length ≤ 32) : (hC b).size = 32 := by simp [hC, Sha.zeros]; omega
theorem hC_one (b : List UInt8) : (hC b).all (·.oneCell') = true := by
  rw [Array.all_eq_true_iff_forall_mem]
  intro v hv
  unfold hC at hv
  rw [List.mem_toArray] at hv
  obtain ⟨i, hi, rfl⟩ := List.mem_map.1 hv; rfl
def preC (x : Sha.St) (k : Nat) : List UInt8 := ((x.list.take k).map fun w => Sha.told w.toNat 4).flatten
theorem preC_succ (x : Sha.St) (k : Nat) (h : k < 8) : preC x (k + 1) = preC x k ++ Sha.told (x.get k).toNat 4 := by
  unfold preC
  have hl : x.list.length = 8 := rfl
  rw [List.take_succ_eq_append_getElem (by omega), List.map_append, List.flatten_append]
  have : x.list[k]'(by omega) = x.get k := by
    have : ∀ k : Fin 8, x.list[k.val]'(by rw [hl]; exact k.isLt) = x.get k.val := by
      intro k
      match k with
      | 0 => rfl
      | 1 => rfl
      | 2 => rfl
      | 3 => rfl
      | 4 => rfl
      | 5 => rfl
      | 6 => rfl
      | 7 => rfl
    exact this ⟨k, h⟩
  rw [this]
  simp
theorem preC_len (x : Sha.St) : ∀ k, k ≤ 8 → (preC x k).length = 4 * k
  | 0, _ => rfl
  | k + 1, h => by rw [preC_succ x k (by omega), List.length_append, preC_len x k (by omega), Sha.told_len]; omega
theorem preC_all (x : Sha.St) : preC x 8 = Sha.toldSt x := rfl
theorem infoH : (Tryd.prog.info? 23).map (·.size) = some 32 := by kernel_rfl
theorem allocH (w : World) : (Instr.alloc 23 true (.tuple #[])).run Tryd.prog w = .ok (.pointer (some ⟨w.heap.size, 0, none⟩)) (w.alloc (.cells (hC []) 23)) := by kernel_rfl
def z74 : Array Value := (List.replicate 8 (Value.int .u32 0) ++ (List.replicate 64 (Value.int .u8 0) ++ [Value.int .i64 0, Value.bool false])).toArray
theorem infoR : (Tryd.prog.info? 127).map (·.size) = some 74 := by kernel_rfl
theorem allocR (w : World) : (Instr.alloc 127 true (.tuple #[])).run Tryd.prog w = .ok (.pointer (some ⟨w.heap.size, 0, none⟩)) (w.alloc (.cells z74 127)) := by kernel_rfl
theorem loadR {w : World} {g : Nat} {x : Sha.St} {p : List UInt8} {n : Nat} (hp : p.length = 64) (h : Row w g 127 (runC x p n)) : (Instr.loadAt 127 (.pointer (some ⟨g, 0, none⟩))).run Tryd.prog w = .ok (.agg (runC x p n)) w := by
  have := run_loadAt_mid (P := Tryd.prog) w g 0 127 (runC x p n).toList _ (h.range 0 _ fun j v hv => by rw [Nat.zero_add, ← Array.getElem?_toList]; exact hv) Tryd.underlying127 rfl (by rw [Array.length_toList, runC_size x p n hp]; exact infoR)
  rwa [Array.toArray_toList] at this
theorem storeR {x : Sha.St} {p : List UInt8} {n : Nat} (hp : p.length = 64) (w : World) : (Instr.storeAt 127 (.pointer (some ⟨w.heap.size, 0, none⟩)) (.agg (runC x p n))).run Tryd.prog (w.alloc (.cells z74 127)) = .ok () (w.alloc (.cells (runC x p n) 127)) :=
  run_storeAt_new w 127 z74 (runC x p n) (by rw [runC_size x p n hp]; exact infoR) (by rw [runC_size x p n hp]; rfl) (runC_one x p n)
set_option maxRecDepth 100000 in
set_option maxHeartbeats 4000000 in
theorem runSum_any (g : Nat) (l : List UInt8) (w : World) (hrun : IsRun w g l) (hmax : l.length ≤ 1000000000) :
    Calls Tryd.prog 59 #[.pointer (some ⟨g, 0, none⟩)] w fun e w' => e = .returned (.agg (hC (Sha.sum l))) ∧ Below w.heap.size w w' := by
  obtain ⟨p, hp, hpl, hrow⟩ := id hrun
  have hgl := hrow.lt
  obtain ⟨came, hcame⟩ : ∃ c, l.length = c := ⟨_, rfl⟩
  rw [hcame] at hrow hmax
  obtain ⟨z, hz⟩ : ∃ z, Sha.noughts came = z := ⟨_, rfl⟩
  have hzi : (119 - (came : Int) % 64) % 64 = (z : Int) := by rw [← hz]; unfold Sha.noughts; omega
  have HZI := Lib.hid hzi
  have hz63 : z ≤ 63 := by rw [← hz]; unfold Sha.noughts; omega
  have HR := Lib.hid hrun
  have HC := Lib.hid hcame
  have HZ := Lib.hid hz
  have HPL := Lib.hid hpl
  have hc72 := (hrow.cell 72).trans (runC_get72 _ _ _ hp)
  clear hrun hcame hz hpl hzi
  go_enter Tryd.func59, Tryd.ntmps59
  go_upto_region 3 with (first
    | (with_reducible refine wpList_alloc rfl 23 rfl (allocH _) ?_)
    | (go_at_call 80; refine (none_no g l _ (HR.out.later ((Later.refl w).alloc _))).mono ?_; rintro e w' ⟨rfl, rfl⟩))
  obtain ⟨bh, hbh⟩ : ∃ y, y = w.heap.size := ⟨_, rfl⟩
  rw [← hbh]
  have hrh : Row (w.alloc (.cells (hC []) 23)) bh 23 (hC []) := by rw [hbh]; exact Row.new w _ _
  have hb1 : Below w.heap.size w (w.alloc (.cells (hC []) 23)) := below_new w _
  have hL1 : Later w (w.alloc (.cells (hC []) 23)) := (Later.refl w).alloc _
  have hrow1 := hrow.later hL1
  have hz1 : (w.alloc (.cells (hC []) 23)).heap.size = bh + 1 := by rw [hbh]; simp only [World.size_alloc]
  have HBH := Lib.hid hbh
  have HZ1 := Lib.hid hz1
  clear hbh hz1 hc72
  generalize w.alloc (.cells (hC []) 23) = w1 at *
  go_cut [3] (fun q W => ∃ ge, q = .pointer (some ⟨ge, 0, none⟩) ∧ IsRun W ge l ∧ w1.heap.size ≤ ge ∧ Later w1 W)
  case first =>
    go_wp2_with (first
      | (refine wpList_load rfl 127 (.tmp 11) rfl (.pointer (some ⟨g, 0, none⟩)) rfl (loadR hp hrow1) ?_)
      | (with_reducible refine wpList_alloc rfl 127 rfl (allocR _) ?_)
      | (refine wpList_store rfl 127 (.tmp 3) (.tmp 12) rfl (.pointer (some ⟨w1.heap.size, 0, none⟩)) (.agg (runC (Sha.state l) p came)) rfl rfl (storeR hp _) ?_))
    go_meet
    exact ⟨w1.heap.size, rfl, ⟨p, hp, HPL.out, by rw [HC.out]; exact Row.new w1 _ _⟩, Nat.le_refl _, (Later.refl w1).alloc _⟩
  case rest =>
    obtain ⟨ge, rfl, hie, hge, hLe⟩ := hcut
    obtain ⟨w2, rfl⟩ : ∃ y, y = wc := ⟨_, rfl⟩
    have hge2 := hie.lt
    have hrow2 := hrow1.later hLe
    have hc72 := (hrow2.cell 72).trans (runC_get72 _ _ _ hp)
    obtain ⟨ad, cz, wz, hrunz, hrdz, hcz1, hcz2, hLz, hbz⟩ := append_z (P := Tryd.prog) (w2.alloc (.cells #[byteV 128] 5)) w2.heap.size 128 40 3 40 5 .i64 Tryd.underlying40 Tryd.underlying3 (info5 : ByteInfo Tryd.prog 5) (Row.new w2 _ _) z (by omega)
    have hL2z : Later w2 wz := ((Later.refl w2).alloc _).step hLz
    have hadge : ad.block ≠ ge := by
      have h := World.size_alloc w2 (.cells #[byteV 128] 5)
      rcases hbz with h' | h' <;> omega
    rw [← HZI.out, show byteV 128 = Value.int .u8 128 from rfl] at hrunz
    clear hLz hbz
    unfold maxLen at hcz2
    go_wp2_with (first
      | (at_builtin; (refine Lib.wpList_append_run _ rfl (.tmp 20) (.tmp 21) 40 3 rfl (.slice (some ⟨w2.heap.size, 0, none⟩) 1 1) (.int .i64 ((119 - (came : Int) % 64) % 64)) (by rfl) (by rfl) _ _ hrunz ?_)))
    have hzl : (128 :: List.replicate z (0 : UInt8)).length = 1 + z := by simp; omega
    refine (write_any ge l (some ad) (1 + z) cz (128 :: List.replicate z 0) wz (hie.later hL2z) hzl hcz1 hcz2 hrdz (fun a' e _ => by cases e; exact hadge) (by rw [HC.out]; omega)).mono ?_
    rintro e w5 ⟨rfl, hi5, hg5⟩
    have hneg : g ≠ ge := by have := HZ1.out; have := HBH.out; omega
    have hneh : bh ≠ ge := by have := HZ1.out; omega
    have hrow5 := (hrow2.later hL2z).grown hg5 (fun e => hneg (by injection e))
    have hrh5 := ((hrh.later hLe).later hL2z).grown hg5 (fun e => hneh (by injection e))
    have hbe : w.heap.size ≤ ge := by have := HZ1.out; have := HBH.out; omega
    have hb5 : Below w.heap.size w w5 := ((hb1.trans (hLe.mono hb1.size)).trans (hL2z.mono (by have := hLe.size; have := hb1.size; omega))).grown hg5 (by have := hLe.size; have := hb1.size; have := hL2z.size; omega) (fun j e => by cases e; exact hbe)
    have hc72' := (hrow5.cell 72).trans (runC_get72 _ _ _ hp)
    have hadge5 := hi5.lt
    clear hie hL2z hrdz hrunz hcz1 hcz2 hg5 hadge hzl hc72
    go_wp2_with fail
    refine (told8_any came _ (by omega)).mono ?_
    rintro e w6 ⟨v6, rfl, hown6, hb6⟩
    obtain ⟨A6, c6, rfl, _, hm6, hrd6⟩ := hown6.slice
    have hA6 : ∀ a', A6 = some a' → Sha.told (came * 8) 8 ≠ [] → a'.block ≠ ge := fun a' e _ => by
      have := (hown6.at_ a'.block (by rw [e]; rfl)).1
      omega
    rw [Sha.told_len] at *
    unfold maxLen at hm6
    have hpadl : (l ++ 128 :: List.replicate z (0 : UInt8)) ++ Sha.told (came * 8) 8 = Sha.padded l := by
      unfold Sha.padded
      rw [HC.out, HZ.out]
      rfl
    have HPAD := Lib.hid hpadl
    clear hpadl
    go_wp2_with fail
    refine (write_any ge (l ++ 128 :: List.replicate z 0) A6 8 c6 (Sha.told (came * 8) 8) w6 (hi5.later hb6) (Sha.told_len _ _) (by omega) (by omega) hrd6 hA6 (by simp only [List.length_append, List.length_cons, List.length_replicate, HC.out]; omega)).mono ?_
    rintro e w7 ⟨rfl, hi7, hg7⟩
    rw [HPAD.out] at hi7
    have hrh7 := (hrh5.later hb6).grown hg7 (fun e => hneh (by injection e))
    have hb7 : Below w.heap.size w w7 := (hb5.trans (hb6.mono hb5.size)).grown hg7 (by have := hb5.size; have := Below.size hb6; omega) (fun j e => by cases e; exact hbe)
    have hs7 : bh < w7.heap.size := hrh7.lt
    have hs7w : w.heap.size ≤ bh := by have := HBH.out; omega
    obtain ⟨p7, hp7, _, hrow7⟩ := hi7
    have hld7 := loadS (o := 0) hrow7 (fun i hi => runC_state _ _ _ i hi)
    obtain ⟨y, hy⟩ : ∃ y, Sha.state (Sha.padded l) = y := ⟨_, rfl⟩
    rw [hy] at hld7
    have hsum : Sha.sum l = preC y 8 := by rw [← hy]; rfl
    have HSUM := Lib.hid hsum
    have h00 : hC (preC y 0) = hC [] := rfl
    have H00 := Lib.hid h00
    clear hy hsum h00 hi5 hrow7 hp7 hrd6 hown6 hrh5 hrow5 hrow2 hrow1 hc72' hA6 hb5 hb6 hg7
    go_upto_region 7 with fail
    go_wp2_with (first | (refine wpList_load rfl 90 (.tmp 33) rfl (.pointer (some ⟨ge, 0, none⟩)) rfl hld7 ?_))
    go_loopw [5, 6, 35] (fun _ _ t wr => ∃ k : Nat, k ≤ 8 ∧ t = .int .i64 k ∧ Row wr bh 23 (hC (preC y k)) ∧ Below w.heap.size w wr) (fun _ _ t _ => 8 - (intOf t).toNat)
    case atStart => exact ⟨0, by omega, rfl, by rw [H00.out]; exact hrh7, hb7⟩
    case round =>
      obtain ⟨k, hk, rfl, hrk, hbk⟩ := hrel
      clear hld7 hrh7 hb7
      by_cases hlt : k < 8
      · have hix := fun w' : World => idxAgg (W := w') hlt (stC_get y 0 k hlt)
        rw [show (k + 0) % 8 = k from by omega] at hix
        have hpl := preC_len y k (by omega)
        have hnx := preC_succ y k hlt
        have HNX := Lib.hid hnx
        have HPLK := Lib.hid hpl
        have hk32 : 4 * k < 32 := by omega
        clear hnx hpl
        obtain ⟨xk, hxk⟩ : ∃ v, y.get k = v := ⟨_, rfl⟩
        rw [hxk] at hix
        have HXK := Lib.hid hxk
        clear hxk
        have hx64 : xk.toNat < 18446744073709551616 := by have := xk.isLt; omega
        have hxl := xk.isLt
        go_upto_region 10 with fail
        refine (wpIn_wide (n := 0)).1 ?_
        refine wpIn_region_last wide_wide [Pr.eq (.int .i64 (k : Int)), Pr.eq (.int .i64 ((4 * k : Nat) : Int)), Pr.eq (.slice (some ⟨bh, 4 * k, none⟩) (32 - 4 * k) (32 - 4 * k)), Pr.eq (.int .u32 (xk.toNat : Int)), Pr.eq (.int .u64 (xk.toNat : Int)), Pr.rd 4 (Sha.told xk.toNat 4)] (by kernel_rfl) (by kernel_rfl) (by kernel_rfl) (by kernel_rfl) (by kernel_rfl) (by kernel_rfl) rfl ⟨?_, ?_, ?_, ?_, ?_, ?_, trivial⟩ ?_
        · exact fun ac W hL he => stepOk_want rfl (op_move rfl (he.keep (.tmp 5) (by kernel_rfl)))
        · exact fun ac W hL he => stepOk_want rfl (op_binOp rfl rfl (he.get 0 39 (by kernel_rfl) rfl) eqg_mul (mulI4 hlt) rfl)
        · exact fun ac W hL he => stepOk_want rfl (op_slice (W' := W) rfl (he.keep (.tmp 2) (by kernel_rfl)) (congrArg some (he.get 1 40 (by kernel_rfl) rfl)) (rfl : _ = none) rfl ((sliceH hk32) W) rfl)
        · exact fun ac W hL he => stepOk_want rfl (op_move rfl (he.keep (.tmp 6) (by kernel_rfl)))
        · exact fun ac W hL he => stepOk_want rfl (op_convert rfl (he.get 3 42 (by kernel_rfl) rfl) (conv32 xk W) (Later.refl _) rfl)
        · intro ac W hL he; refine stepOk_want rfl ?_; have e0 : ac.eval (.tmp 43) = (.int .u64 (xk.toNat : Int)) := (he.get 4 43 (by kernel_rfl) rfl); exact op_callF (vs := #[.int .u64 (xk.toNat : Int), .int .i64 4]) rfl (by simp only [List.map_toArray, List.map_cons, List.map_nil, e0]; rfl) (enters_of Tryd.func82 (by kernel_rfl) rfl) ((told4_any xk.toNat W hx64).mono fun e W' ⟨v, he', hown, hb⟩ => ⟨v, he', hb, by obtain ⟨A', c', rfl, hc', _, hr'⟩ := hown.slice; exact ⟨A', c', by rw [Sha.told_len], by rw [Sha.told_len] at hc'; exact hc', hr'⟩⟩)
        · intro xs w9 hL9 hx hk hg
          have e1 := hg 2 41 (by decide) (by kernel_rfl)
          have e2 := hg 5 44 (by decide) (by kernel_rfl)
          have v1 : xs 2 = .slice (some ⟨bh, 4 * k, none⟩) (32 - 4 * k) (32 - 4 * k) := hx 2 (by decide)
          obtain ⟨A9, c9, v2, _, hrd9⟩ : ∃ A c, xs 5 = .slice A 4 c ∧ 4 ≤ c ∧ Rd w9 A (Sha.told xk.toNat 4) := hx 5 (by decide)
          rw [v1] at e1
          rw [v2] at e2
          have hrk9 := hrk.later hL9
          have hbk9 : Below w.heap.size w w9 := hbk.trans (hL9.mono hbk.size)
          clear hx hk hg v1 v2
          refine ⟨op_copy_rd (.tmp 41) (.tmp 44) 40 40 rfl 5 Tryd.underlying40 (by kernel_rfl) bh (4 * k) (32 - 4 * k) (32 - 4 * k) A9 4 c9 (Sha.told xk.toNat 4) (Sha.told_len _ _) hrd9 e1 e2 _ _ hrk9 4 (by omega) (by rw [hC_size _ (by rw [HPLK.out]; omega)]; omega) ?_⟩
          intro w10 hrow10 hg10
          rw [List.take_of_length_le (by rw [Sha.told_len]; omega)] at hrow10
          have hcp := hC_copy (preC y k) (Sha.told xk.toNat 4) (by rw [HPLK.out, Sha.told_len]; omega)
          rw [HPLK.out, ← HXK.out, ← HNX.out] at hcp
          rw [← HXK.out, hcp] at hrow10
          have hb10 := hbk9.grown hg10 hbk9.size (fun j e => by cases e; exact hs7w)
          clear hcp e1 e2 hrk9 hrd9 hg10
          simp only [initL, lastL, putL, Nat.reduceAdd, Act.put, List.setIfInBounds_toArray, List.set_cons_succ, List.set_cons_zero]
          go_wp2_with fail
          go_roundw
          case rel => exact ⟨k + 1, by omega, by go_num, hrow10, hb10⟩
          case measure => simp [intOf]; omega
      · obtain rfl : k = 8 := by omega
        rw [← HSUM.out] at hrk
        have hsz := hC_size (Sha.sum l) (by rw [Sha.sum_len]; omega)
        have hldh : (Instr.loadAt 23 (.pointer (some ⟨bh, 0, none⟩))).run Tryd.prog wr = .ok (.agg (hC (Sha.sum l))) wr := by
          have := run_loadAt_mid (P := Tryd.prog) wr bh 0 23 (hC (Sha.sum l)).toList _ (hrk.range 0 _ fun j v hv => by rw [Nat.zero_add, ← Array.getElem?_toList]; exact hv) Tryd.underlying23 rfl (by rw [Array.length_toList, hsz]; exact infoH)
          rwa [Array.toArray_toList] at this
        go_wp2_with (first
          | (refine wpList_load rfl 23 (.tmp 2) rfl (.pointer (some ⟨bh, 0, none⟩)) rfl hldh ?_)
          | (refine wpList_store rfl 23 (.tmp 2) (.tmp 47) rfl (.pointer (some ⟨bh, 0, none⟩)) (.agg (hC (Sha.sum l))) rfl rfl (run_store_row hrk (hC (Sha.sum l)) (by rw [hsz]; exact infoH) (by rw [hsz]; omega) (hC_one _)) ?_))
        have hr2 := row_setCells (hC (Sha.sum l)).toList 0 wr _ hrk
        rw [setFrom_whole _ _ (by rw [Array.length_toList]), Array.toArray_toList] at hr2
        refine bodyPost_ret (results_cell_row rfl _ _ bh 23 (hC (Sha.sum l)) (0, 0) _ rfl hr2 Tryd.underlying23 rfl (by rw [hsz]; exact infoH)) rfl ⟨rfl, hbk.grown (grown_setCells _ _ _) hbk.size (fun j e => by cases e; exact hs7w)⟩
end Go.Proofs.YthabgfghogdkcaaDoor
