/- Route: rows of steps, written part by part. -/
import Derived.Test.YtloiaaolnfimgaaGreatRk5
import Derived.Test.YtloiaaolnfimgaaGreatRyp
import Derived.Test.YtloiaaolnfimgaaGreatRm7
set_option linter.unusedVariables false
set_option linter.unusedSimpArgs false
namespace Go.Proofs.YtloiaaolnfimgaaGreat
open Go.RowKit Rt
attribute [local go_sem] Oper.semAt_some
section
variable {F : Fence} {n : Nat} {P : Program} {w : World} {ops : Array Oper} {rest : List Oper} {o : Oper} {a : Act} {Q : Exit → Act → World → Prop}
theorem wpListIn_fieldG (hw : Region.wanted o (yielded ops a.tmps) = true) (T : TypeId) (x : Operand) (i : Nat) (ho : o.op = .fieldAddr T x i) (vx : Value) (hx : a.eval x = vx) {v : Value} {w' : World} (hr : (Instr.fieldAt T vx i).run P w = .ok v w')
    (h : wpListIn F n P ops Q rest (a.put o.dst v) w') : wpListIn F n P ops Q (o :: rest) a w := by
  refine wpListIn_on hw fun K hK => ?_
  unfold Oper.wpIn
  refine ⟨?_, ?_⟩
  · simp [Oper.about, ho]
  · rw [Oper.semAt_plain F _ _ (by rw [ho]; intro c hc'; cases hc')]
    simp [execOp, ho, hx, hr, Result.andThen]
    exact hK _ _ h
theorem wpListIn_buildG (hw : Region.wanted o (yielded ops a.tmps) = true) (T : TypeId) (ps : Array (Nat × Operand)) (ho : o.op = .build T ps) (vs : Array (Nat × Value)) (hv : (ps.map fun (i, x) => (i, a.eval x)) = vs) {v : Value} {w' : World} (hr : (Instr.build T vs).run P w = .ok v w')
    (h : wpListIn F n P ops Q rest (a.put o.dst v) w') : wpListIn F n P ops Q (o :: rest) a w := by
  refine wpListIn_on hw fun K hK => ?_
  unfold Oper.wpIn
  refine ⟨?_, ?_⟩
  · simp [Oper.about, ho]
  · rw [Oper.semAt_plain F _ _ (by rw [ho]; intro c hc'; cases hc')]
    simp only [execOp, ho, hv, hr, Result.andThen, Sem.run_bind, Sem.run_pure]
    exact hK _ _ h
theorem wpListIn_allocG (hw : Region.wanted o (yielded ops a.tmps) = true) (T : TypeId) (ho : o.op = .alloc T) {v : Value} {w' : World} (hr : (Instr.alloc T true (.tuple #[])).run P w = .ok v w')
    (h : wpListIn F n P ops Q rest (a.put o.dst v) w') : wpListIn F n P ops Q (o :: rest) a w := by
  refine wpListIn_on hw fun K hK => ?_
  unfold Oper.wpIn
  refine ⟨?_, ?_⟩
  · simp [Oper.about, ho]
  · rw [Oper.semAt_plain F _ _ (by rw [ho]; intro c hc'; cases hc')]
    simp [execOp, ho, hr, Result.andThen]
    exact hK _ _ h
theorem wpListIn_storeG (hw : Region.wanted o (yielded ops a.tmps) = true) (T : TypeId) (x y : Operand) (ho : o.op = .store T x y) (vx vy : Value) (hx : a.eval x = vx) (hy : a.eval y = vy) {w' : World} (hr : (Instr.storeAt T vx vy).run P w = .ok () w')
    (h : wpListIn F n P ops Q rest (a.put o.dst undef) w') : wpListIn F n P ops Q (o :: rest) a w := by
  refine wpListIn_on hw fun K hK => ?_
  unfold Oper.wpIn
  refine ⟨?_, ?_⟩
  · simp [Oper.about, ho]
  · rw [Oper.semAt_plain F _ _ (by rw [ho]; intro c hc'; cases hc')]
    simp [execOp, ho, hx, hy, hr, Result.andThen]
    exact hK _ _ h
end
theorem buildHopK0 (f : Nat → Value) (a x : Int) (w : World) : (Instr.build 27 #[(0, .agg ((List.range 32).map f).toArray), (2, .int .i64 a), (3, .int .i64 x)]).run Tryz.prog w = .ok (.agg ((List.range 32).map f ++ (hC zh).toList ++ [Value.int .i64 a, Value.int .i64 x]).toArray) w := by kernel_rfl
theorem buildHopK {key : List UInt8} (hk : key.length = 32) (a x : Int) (w : World) : (Instr.build 27 #[(0, .agg (hC key)), (2, .int .i64 a), (3, .int .i64 x)]).run Tryz.prog w = .ok (.agg (hopC ⟨key, zh, a, x⟩)) w := by
  have h := arr_range (hC key) 32 (hC_size key (by omega))
  unfold hopC
  simp only
  rw [h]
  exact buildHopK0 _ a x w
theorem setFrom_part (pre cur post new : List Value) (h : cur.length = new.length) : setFrom (pre ++ cur ++ post).toArray pre.length new = (pre ++ new ++ post).toArray := by
  apply Array.ext_getElem?
  intro i
  rw [setFrom_get _ _ _ _ (by simp; omega)]
  simp only [List.getElem?_toArray]
  by_cases h1 : pre.length ≤ i ∧ i < pre.length + new.length
  · rw [if_pos h1, List.append_assoc, List.getElem?_append_right h1.1, List.getElem?_append_left (by omega)]
  · rw [if_neg h1]
    by_cases h2 : i < pre.length
    · rw [List.append_assoc, List.append_assoc, List.getElem?_append_left h2, List.getElem?_append_left h2]
    · have h3 : pre.length + new.length ≤ i := by omega
      rw [List.getElem?_append_right (by simp; omega), List.getElem?_append_right (by simp; omega)]
      simp [h]
theorem hopL_eq (h : Hop) : hopL h = (hC h.key).toList ++ (hC h.next).toList ++ [.int .i64 h.amt, .int .i64 h.exp] := rfl
theorem hopC_setKey {h : Hop} (hw : h.wf) (k : List UInt8) (hk : k.length = 32) (pre post : List Value) : setFrom (pre ++ hopL h ++ post).toArray pre.length (hC k).toList = (pre ++ hopL { h with key := k } ++ post).toArray := by
  have h1 := hC_size h.key (Nat.le_of_eq hw.1)
  have h2 := hC_size k (by omega)
  rw [hopL_eq, hopL_eq]
  have e := setFrom_part pre (hC h.key).toList ((hC h.next).toList ++ [.int .i64 h.amt, .int .i64 h.exp] ++ post) (hC k).toList (by simp [h1, h2])
  simp only [List.append_assoc] at e ⊢
  exact e
theorem hopC_setNext {h : Hop} (hw : h.wf) (k : List UInt8) (hk : k.length = 32) : setFrom (hopC h) 32 (hC k).toList = hopC { h with next := k } := by
  have h1 := hC_size h.key (Nat.le_of_eq hw.1)
  have h3 := hC_size h.next (Nat.le_of_eq hw.2)
  have h2 := hC_size k (by omega)
  have e := setFrom_part (hC h.key).toList (hC h.next).toList [.int .i64 h.amt, .int .i64 h.exp] (hC k).toList (by simp [h3, h2])
  rw [Array.length_toList, h1] at e
  exact e
theorem hopC_setKey0 {h : Hop} (hw : h.wf) (k : List UInt8) (hk : k.length = 32) : setFrom (hopC h) 0 (hC k).toList = hopC { h with key := k } := by
  have e := hopC_setKey hw k hk [] []
  simpa using e
theorem hopC_setAmt {h : Hop} (hw : h.wf) (v : Int) : (hopC h).setIfInBounds 64 (.int .i64 v) = hopC { h with amt := v } := by
  have h1 := hC_size h.key (Nat.le_of_eq hw.1)
  have h3 := hC_size h.next (Nat.le_of_eq hw.2)
  unfold hopC
  rw [List.setIfInBounds_toArray, List.set_append_right _ _ (by simp [h1, h3])]
  simp [h1, h3]
theorem hopC_setExp {h : Hop} (hw : h.wf) (v : Int) : (hopC h).setIfInBounds 65 (.int .i64 v) = hopC { h with exp := v } := by
  have h1 := hC_size h.key (Nat.le_of_eq hw.1)
  have h3 := hC_size h.next (Nat.le_of_eq hw.2)
  unfold hopC
  rw [List.setIfInBounds_toArray, List.set_append_right _ _ (by simp [h1, h3])]
  simp [h1, h3]
/-- A row of steps of which one is spoken of. -/
def stRow (i : Nat) (cur : List Value) (post : List Value) : Array Value := ((List.replicate i (hopL noHop)).flatten ++ cur ++ post).toArray
theorem rep_len (i : Nat) : (List.replicate i (hopL noHop)).flatten.length = i * 66 := by
  have := rec_len 66 (List.replicate i (hopL noHop)) (fun l hl => by rw [(List.mem_replicate.1 hl).2]; exact hopL_len noHop_wf)
  rw [this, List.length_replicate]
theorem storeStep {W : World} {g i : Nat} {cur post : List Value} {h : Hop} (hw : h.wf) (hc : cur.length = 66) (hr : Row W g 27 (stRow i cur post)) : ∃ W', (Instr.storeAt 27 (.pointer (some ⟨g, 0 + i * 66, none⟩)) (.agg (hopC h))).run Tryz.prog W = .ok () W' ∧ Row W' g 27 (stRow i (hopL h) post) ∧ W.grownBy W' (some g) := by
  have hl := rep_len i
  obtain ⟨W', h1, h2, h3⟩ := store_part (o := 0 + i * 66) (T := 27) (vs := hopC h) hr (by rw [hopC_size hw]; exact infoHop) (by rw [hopC_size hw]; unfold stRow; simp [hl, hc]) (hopC_one h)
  refine ⟨W', h1, ?_, h3⟩
  have e := setFrom_part (List.replicate i (hopL noHop)).flatten cur post (hopL h) (by rw [hc, hopL_len hw])
  rw [hl] at e
  rw [Nat.zero_add] at h2
  unfold stRow at h2 ⊢
  rw [← e]
  exact h2
theorem storeStepKey {W : World} {g i : Nat} {post : List Value} {h : Hop} (hw : h.wf) (k : List UInt8) (hk : k.length = 32) (hr : Row W g 27 (stRow i (hopL h) post)) : ∃ W', (Instr.storeAt 25 (.pointer (some ⟨g, 0 + i * 66, none⟩)) (.agg (hC k))).run Tryz.prog W = .ok () W' ∧ Row W' g 27 (stRow i (hopL { h with key := k }) post) ∧ W.grownBy W' (some g) := by
  have hl := rep_len i
  have hz := hC_size k (by omega)
  obtain ⟨W', h1, h2, h3⟩ := store_part (o := 0 + i * 66) (T := 25) (vs := hC k) hr (by rw [hz]; exact infoH) (by rw [hz]; unfold stRow; simp [hl, hopC_size hw]; omega) (hC_one k)
  refine ⟨W', h1, ?_, h3⟩
  have e := hopC_setKey hw k hk (List.replicate i (hopL noHop)).flatten post
  rw [hl] at e
  rw [Nat.zero_add] at h2
  unfold stRow at h2 ⊢
  rw [← e]
  exact h2
theorem stRow_exp {W : World} {g i : Nat} {post : List Value} {h : Hop} (hw : h.wf) (hr : Row W g 27 (stRow i (hopL h) post)) : W.cell? ⟨g, 0 + i * 66 + 65, none⟩ = some (.int .i64 h.exp) := by
  have hl := rep_len i
  refine (hr.cell _).trans ?_
  unfold stRow
  rw [List.getElem?_toArray, List.append_assoc, List.getElem?_append_right (by rw [hl]; omega), hl, show 0 + i * 66 + 65 - i * 66 = 65 by omega, List.getElem?_append_left (by rw [hopL_len hw]; decide), Array.getElem?_toList]
  exact hopC_exp hw
theorem storeHash {W : World} {g o : Nat} {t : TypeId} {cs : Array Value} (k : List UInt8) (hk : k.length = 32) (hr : Row W g t cs) (hle : o + 32 ≤ cs.size) : ∃ W', (Instr.storeAt 25 (.pointer (some ⟨g, o, none⟩)) (.agg (hC k))).run Tryz.prog W = .ok () W' ∧ Row W' g t (setFrom cs o (hC k).toList) ∧ W.grownBy W' (some g) := by
  have hz := hC_size k (by omega)
  exact store_part hr (by rw [hz]; exact infoH) (by rw [hz]; exact hle) (hC_one k)
theorem storeI64 {W : World} {g o : Nat} {t : TypeId} {cs : Array Value} (v : Int) (hr : Row W g t cs) {u : Value} (hu : cs[o]? = some u) : (Instr.storeAt 2 (.pointer (some ⟨g, o, none⟩)) (.int .i64 v)).run Tryz.prog W = .ok () (W.setCell ⟨g, o, none⟩ (.int .i64 v)) := by
  have h0 : W.cell? ⟨g, o, none⟩ = some u := (hr.cell o).trans hu
  have h1 := hr.frozen o
  go_simp
theorem routeFrom_len (a : Int) : ∀ fs : List Fee1, (routeFrom a fs).2 = 0 → (routeFrom a fs).1.length = fs.length + 1
  | [], _ => rfl
  | f :: fs, h => by
    have ih := routeFrom_len a fs
    unfold routeFrom at h ⊢
    by_cases h1 : (routeFrom a fs).2 = 0
    · rw [if_pos h1] at h ⊢
      by_cases h2 : (sendS f.1 f.2 ((routeFrom a fs).1.headD 0)).2 = 0
      · rw [if_pos h2]
        simp [ih h1]
      · rw [if_neg h2] at h
        exact absurd h h2
    · rw [if_neg h1] at h
      exact absurd h h1
theorem routeS_len {a : Int} {fs : List Fee1} (h : (routeS a fs).2 = 0) : (routeS a fs).1.length = fs.length + 1 := by
  unfold routeS at h ⊢
  split
  · rename_i h1
    rw [if_pos h1] at h
    exact routeFrom_len a fs h
  · rename_i h1
    rw [if_neg h1] at h
    exact absurd h (by decide)
theorem loadHops {b o : Nat} {v : Value} {W : World} (hc : W.cell? ⟨b, o, none⟩ = some v) : (Instr.loadAt 22 (.pointer (some ⟨b, o, none⟩))).run Tryz.prog W = .ok v W := by
  go_simp
end Go.Proofs.YtloiaaolnfimgaaGreat
