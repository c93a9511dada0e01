/- Walks, secrets: Put of what fits. -/
import Derived.Test.YthabgfghogdkcaaDoorSc7
set_option linter.unusedVariables false
set_option linter.unusedSimpArgs false
namespace Go.Proofs.YthabgfghogdkcaaDoor
open Go.RowKit
theorem op_build {P : Program} {Q : Exit → Act → World → Prop} {o : Oper} {a : Act} {W : World} {R : Value → World → Prop} {t : TypeId} {xs : Array (Nat × Operand)} {vs : Array (Nat × Value)} {v : Value} (ho : o.op = .build t xs) (hv : (xs.map fun (i, x) => (i, a.eval x)) = vs) (hr : (Instr.build t vs).run P W = .ok v W) (h : R v W) : o.wp P a W (fun a' W' => ∃ v, a' = a.put o.dst v ∧ Later W W' ∧ R v W') Q := by
  refine op_value (v := v) (W' := W) ?_ (Later.refl _) h
  unfold execOp
  simp only [ho, hv, hr, Sem.run_bind, Sem.run_pure, Result.andThen_ok]
set_option maxHeartbeats 8000000 in
set_option maxRecDepth 100000 in
theorem put_ok (g : Nat) (n p : Nat) (ix : Nat → Nat) (sc : Nat → List UInt8) (s : List UInt8) (w : World) (hT : Tabs w) (hk : IsKeep w g n ix sc) (hs : s.length = 32) (hm : n ≤ 2147483647) (hp : Sec.place (2147483647 - n) = p) (hp32 : p < 32) (hfit : Sec.fitB (updF ix p (2147483647 - n)) (updF sc p s) p p = true) :
    Calls Tryd.prog 13 #[.pointer (some ⟨g, 0, none⟩), .int .i64 (n : Int), .agg (hC s)] w fun e w' => e = .returned (.int .i64 0) ∧ IsKeep w' g ((n + 1 : Nat) : Int) (updF ix p (2147483647 - n)) (updF sc p s) ∧ Same (fun k => k < w.heap.size ∧ k ≠ g) w w' := by
  have hh := putHead_of w g s
  have hbx := boxH s hs
  have hrow := hk.row
  have hlen := hk.len
  have hin := inB_yes (n := (n : Int)) (most := 2147483647) (by omega) (by omega)
  have hneI : ((n : Int) != (n : Int)) = false := by simp
  have hlen2 : ∀ r, (updF sc p s r).length = 32 := fun r => by unfold updF; split; exact hs; exact hlen r
  have hlim2 : ∀ r, updF ix p (2147483647 - n) r < 2147483648 := fun r => by unfold updF; split; omega; exact hk.lim r
  have HS := Lib.hid hs
  have HK := Lib.hid hk
  have HLEN := Lib.hid hlen
  have HLEN2 := Lib.hid hlen2
  have HLIM2 := Lib.hid hlim2
  have HFIT := Lib.hid hfit
  have HPL := Lib.hid hp
  have HT := Lib.hid hT
  obtain ⟨x, hx⟩ : ∃ x : Nat, 2147483647 - n = x := ⟨_, rfl⟩
  have hxI : (2147483647 : Int) - (n : Int) = (x : Int) := by omega
  have hxl : x < 2147483648 := by omega
  rw [hx] at HLIM2 HFIT HPL ⊢
  have HXI := Lib.hid hxI
  clear hs hk hlen hlen2 hlim2 hfit hp hT hx hxI
  go_enter_defers Tryd.func13, Tryd.ntmps13
  go_upto_region 1 with (first
    | (guard_target =~ wpList _ _ _ (_ :: _) _ _; first
      | (with_reducible refine wpList_box rfl 23 (.tmp 2) rfl (.agg (hC s)) rfl (hbx _) ?_))
    | fail)
  obtain ⟨q, hq⟩ : ∃ q, q = w.heap.size := ⟨_, rfl⟩
  rw [← hq] at hh
  try simp only [World.size_alloc]
  rw [← hq]
  have hgl := hrow.lt
  have hrow := hrow.belowAll hh.below
  clear hq hbx
  generalize ((w.alloc (.cells #[.pointer (some ⟨g, 0, none⟩)] 31)).alloc (.cells (hC s) 23)).alloc (.cells #[.int .i64 0] 24) = w1 at *
  obtain ⟨k3, k5, k6, hb, hwq⟩ := hh
  have c3 : w1.cell? ⟨q, 0, none⟩ = some (.pointer (some ⟨g, 0, none⟩)) := (k3.cell 0).trans rfl
  have c6 : w1.cell? ⟨q + 2, 0, none⟩ = some (.int .i64 0) := (k6.cell 0).trans rfl
  have f6 : w1.frozen? ⟨q + 2, 0, none⟩ = false := k6.frozen 0
  have cg : w1.cell? ⟨g, 0, none⟩ = some (.int .i64 n) := (hrow.cell 0).trans (kC_n _ _ _ _)
  have hT1 := HT.out.later hb
  have hmf : ∀ (fn : Fn) (first cap : Array Value) (w : World), (Instr.makeFunc fn first cap).run Tryd.prog w = .ok (.func fn first cap) w := fun _ _ _ _ => rfl
  have hldk := loadKeep hrow
  obtain ⟨w7, hst7, k7, hg7⟩ := putKeep (m := n) (jx := ix) (tc := sc) (b := true) (fun r _ => Nat.le_of_eq (HLEN.out r)) (Row.new w1 60 (kC 0 (fun _ => 0) (fun _ => []) false))
  go_upto_region 8 with (first
    | (go_at_call 27; refine (knone_no g n ix sc _ hrow).mono ?_; rintro e w2 ⟨rfl, rfl⟩)
    | (go_at_call 24; refine (in64_any _ _ _).mono ?_; rintro e w2 ⟨rfl, rfl⟩)
    | (guard_target =~ wpList _ _ _ (_ :: _) _ _; first
      | (refine wpList_load rfl 60 (.tmp 26) rfl (.pointer (some ⟨g, 0, none⟩)) rfl hldk ?_)
      | (with_reducible refine wpList_alloc rfl 60 rfl (allocKeep _) ?_)
      | (refine wpList_store rfl 60 (.tmp 7) (.tmp 27) rfl (.pointer (some ⟨w2.heap.size, 0, none⟩)) (.agg (kC n ix sc true)) rfl rfl hst7 ?_))
    | fail)
  obtain ⟨q7, hq7⟩ : ∃ q7, q7 = w2.heap.size := ⟨_, rfl⟩
  rw [← hq7] at hg7 k7 ⊢
  have hq7l : q + 2 < q7 := by rw [hq7]; exact k6.lt
  have hg7l : g < q7 := by rw [hq7]; exact hrow.lt
  have mv : ∀ {h' : Nat} {t : TypeId} {cs : Array Value}, Row w2 h' t cs → h' ≠ q7 → Row w7 h' t cs := fun h hne => (h.alloc _).grown hg7 (fun e => hne (Option.some.inj e))
  have k3 := mv k3 (by omega)
  have k5 := mv k5 (by omega)
  have k6 := mv k6 (by omega)
  have hrow := mv hrow (by omega)
  have hb7 : Below w.heap.size w w7 := (hb.alloc hb.size (.cells (kC 0 (fun _ => 0) (fun _ => []) false) 60)).grown hg7 (by have := hb.size; simp only [World.size_alloc]; omega) (fun j e => by cases e; omega)
  have hT7 := HT.out.later hb7
  have HMF := Lib.hid hmf
  clear mv c3 c6 f6 cg hldk hst7 hg7 hq7 hb hT1 hmf
  have c3 : w7.cell? ⟨q, 0, none⟩ = some (.pointer (some ⟨g, 0, none⟩)) := (k3.cell 0).trans rfl
  have cg : w7.cell? ⟨g, 0, none⟩ = some (.int .i64 n) := (hrow.cell 0).trans (kC_n _ _ _ _)
  have fg : w7.frozen? ⟨g, 0, none⟩ = false := hrow.frozen 0
  have hpl := place_any x (by omega) w7 hT7
  rw [HPL.out] at hpl
  have hmf := HMF.out
  go_upto_region 9 with fail
  clear hmf
  have hxI := HXI.out
  have hn1 : (n : Int) + 1 ≤ 9223372036854775807 := by omega
  go_upto_region 12 with (first
    | (go_at_call 30; refine hpl.mono ?_; clear hpl; rintro e w8 ⟨rfl, rfl⟩)
    | fail)
  have hrow2 := hrow.set 0 (.int .i64 ((n : Int) + 1))
  rw [kC_setn] at hrow2
  have hg8 := grown_set w8 g 0 (.int .i64 ((n : Int) + 1))
  have mv : ∀ {h' : Nat} {t : TypeId} {cs : Array Value}, Row w8 h' t cs → h' ≠ g → Row (w8.setCell ⟨g, 0, none⟩ (.int .i64 ((n : Int) + 1))) h' t cs := fun h hne => h.grown hg8 (fun e => hne (Option.some.inj e))
  have k7 := mv k7 (by omega)
  have k3 := mv k3 (by omega)
  have k5 := mv k5 (by omega)
  have k6 := mv k6 (by omega)
  have hs8 : Same (fun k => k < w.heap.size ∧ k ≠ g) w (w8.setCell ⟨g, 0, none⟩ (.int .i64 ((n : Int) + 1))) := same_step (same_later hb7) (same_grown hg8)
  clear mv c3 cg fg hg8 hb7 hT7 hn1 hxI
  generalize w8.setCell ⟨g, 0, none⟩ (.int .i64 ((n : Int) + 1)) = w9 at *
  refine (wpIn_wide (n := 0)).1 ?_
  refine wpIn_region_last wide_wide [Pr.eq (.pointer (some ⟨g, 0, none⟩)), Pr.eq (.int .i64 (p : Int)), Pr.eq (.int .i64 (x : Int)), Pr.eq (.agg (hC s)), Pr.eq (.agg (ptC x s)), Pr.eq (.pointer (some ⟨g, 0, none⟩)), Pr.eq (.pointer (some ⟨g, 1, none⟩)), Pr.eq (.pointer (some ⟨g, 1 + 33 * p, none⟩))] (by kernel_rfl) (by kernel_rfl) (by kernel_rfl) (by kernel_rfl) (by kernel_rfl) (by kernel_rfl) rfl ⟨?_, ?_, ?_, ?_, ?_, ?_, ?_, ?_, trivial⟩ ?_
  · exact fun ac W hL he => stepOk_want rfl (op_load rfl (he.keep (.tmp 3) (by kernel_rfl)) (loadPK (((k3.later hL).cell 0).trans rfl)) rfl)
  · exact fun ac W hL he => stepOk_want rfl (op_move rfl (he.keep (.tmp 9) (by kernel_rfl)))
  · exact fun ac W hL he => stepOk_want rfl (op_move rfl (he.keep (.tmp 8) (by kernel_rfl)))
  · exact fun ac W hL he => stepOk_want rfl (op_load rfl (he.keep (.tmp 5) (by kernel_rfl)) (loadH HS.out (k5.later hL)) rfl)
  · (intro ac W hL he; have e44 : ac.eval (.tmp 44) = .int .i64 (x : Int) := he.get 2 44 (by kernel_rfl) rfl; have e45 : ac.eval (.tmp 45) = .agg (hC s) := he.get 3 45 (by kernel_rfl) rfl; refine stepOk_want rfl (op_build rfl (vs := #[(0, .int .i64 (x : Int)), (1, .agg (hC s))]) ?_ (buildP x s (Nat.le_of_eq HS.out) W) rfl); simp only [List.map_toArray, List.map_cons, List.map_nil, e44, e45])
  · exact fun ac W hL he => stepOk_want rfl (op_nil rfl (he.get 0 42 (by kernel_rfl) rfl) rfl)
  · exact fun ac W hL he => stepOk_want rfl (op_fieldAddr rfl (he.get 5 47 (by kernel_rfl) rfl) fieldPlaces rfl)
  · exact fun ac W hL he => stepOk_want rfl (op_idx rfl (he.get 6 48 (by kernel_rfl) rfl) (he.get 1 43 (by kernel_rfl) rfl) (idxKept hp32) rfl)
  · intro xs W hL hx hk' hg
    have e1 := hg 7 49 (by decide) (by kernel_rfl)
    have e2 := hg 4 46 (by decide) (by kernel_rfl)
    have v1 : xs 7 = .pointer (some ⟨g, 1 + 33 * p, none⟩) := hx 7 (by decide)
    have v2 : xs 4 = .agg (ptC x s) := hx 4 (by decide)
    rw [v1] at e1
    rw [v2] at e2
    have hrow3 := hrow2.later hL
    obtain ⟨w10, hst, hrow4, hg10⟩ := storePlace hrow3 hp32 x s (Nat.le_of_eq HS.out)
    refine last_store rfl rfl e1 e2 hst ?_
    have mv : ∀ {h' : Nat} {t : TypeId} {cs : Array Value}, Row w9 h' t cs → h' ≠ g → Row w10 h' t cs := fun h hne => (h.later hL).grown hg10 (fun e => hne (Option.some.inj e))
    have k3 := mv k3 (by omega)
    have k6 := mv k6 (by omega)
    have hs10 : Same (fun k => k < w.heap.size ∧ k ≠ g) w w10 := same_step (same_step hs8 (same_later hL)) (same_grown hg10)
    clear hx hk' hg e1 e2 v1 v2 hst hg10 mv hL hrow3 hs8 hrow2
    simp only [initL, lastL, putL, Nat.reduceAdd, Act.put, List.setIfInBounds_toArray, List.set_cons_succ, List.set_cons_zero]
    have c3 : w10.cell? ⟨q, 0, none⟩ = some (.pointer (some ⟨g, 0, none⟩)) := (k3.cell 0).trans rfl
    have hkk : IsKeep w10 g ((n : Int) + 1) (updF ix p x) (updF sc p s) := ⟨hrow4, HLEN2.out, HLIM2.out⟩
    have hft := fits_any g p _ _ _ 161 w10 hp32 hkk
    rw [HFIT.out, if_pos rfl] at hft
    have HFT := Lib.hid hft
    have HKK := Lib.hid hkk
    clear hft hkk
    go_upto_region 14 with (first
      | (go_at_call 31; refine HFT.out.mono ?_; rintro e w11 ⟨hb11, rfl⟩)
      | fail)
    have hkk := HKK.out.of_row (HKK.out.row.belowAll hb11)
    have k6 := k6.belowAll hb11
    have c6 : w11.cell? ⟨q + 2, 0, none⟩ = some (.int .i64 0) := (k6.cell 0).trans rfl
    have f6 : w11.frozen? ⟨q + 2, 0, none⟩ = false := k6.frozen 0
    have hs11 : Same (fun k => k < w.heap.size ∧ k ≠ g) w w11 := same_step hs10 (same_later hb11)
    have K2 := Lib.hid hkk
    have HS11 := Lib.hid hs11
    clear hkk HFT HKK c3 hs11 hs10 hb11
    go_wp2_with fail
    refine leaves_cons (f := 28) (args := #[.pointer (some ⟨q + 2, 0, none⟩), .func (Fn.func 29) #[] #[.pointer (some ⟨q7, 0, none⟩), .pointer (some ⟨q, 0, none⟩)]]) (by simp) (by simp [go_sem]) ?_
    refine (caught_idle _ _ _).mono ?_
    rintro e u' w'' ⟨rfl, rfl, rfl⟩
    have k66 := k6.set 0 (.int .i64 0)
    have hcv : (w11.setCell ⟨q + 2, 0, none⟩ (.int .i64 0)).cell? ⟨q + 2, 0, none⟩ = some (.int .i64 0) := (k66.cell 0).trans rfl
    have hg12 := grown_set w11 (q + 2) 0 (.int .i64 0)
    show ∃ v, _ ∧ _
    refine ⟨.int .i64 0, by simp [results, Tryd.results13, go_sem, hcv], rfl, ?_, same_own HS11.out hg12 (by omega)⟩
    exact K2.out.of_row (K2.out.row.grown hg12 (fun e => by injection e with e; omega))
end Go.Proofs.YthabgfghogdkcaaDoor
