/- Walks, route: Wrap of one step that goes on. -/
import Derived.Test.YtloiaaolnfimgaaGreatRk2
import Derived.Test.YtloiaaolnfimgaaGreatRq
set_option linter.unusedVariables false
set_option linter.unusedSimpArgs false
namespace Go.Proofs.YtloiaaolnfimgaaGreat
open Go.RowKit Rt
section
variable {P : Program} {Q : Exit → Act → World → Prop} {o : Oper} {a : Act} {W : World} {R : Value → World → Prop}
theorem op_not {T : TypeId} {x : Operand} {b : Bool} (ho : o.op = .unOp .not T x) (hx : a.eval x = .bool b) (h : R (.bool (!b)) W) : o.wp P a W (fun a' W' => ∃ v, a' = a.put o.dst v ∧ Later W W' ∧ R v W') Q := by
  refine op_value (v := .bool (!b)) (W' := W) ?_ (Later.refl _) h
  unfold execOp
  simp only [ho, hx, Sem.run_bind, Sem.run_pure, Result.andThen_ok]
  cases b <;> go_simp
theorem op_build {t : TypeId} {parts : Array (Nat × Operand)} {vs : Array (Nat × Value)} {v : Value} (ho : o.op = .build t parts) (hp : (parts.map fun (i, x) => (i, a.eval x)) = vs) (hr : (Instr.build t vs).run P W = .ok v W) (h : R v W) : o.wp P a W (fun a' W' => ∃ v, a' = a.put o.dst v ∧ Later W W' ∧ R v W') Q := by
  refine op_value (v := v) (W' := W) ?_ (Later.refl _) h
  unfold execOp
  simp only [ho, hp, hr, Sem.run_bind, Sem.run_pure, Result.andThen_ok]
end
section
variable {g o : Nat} {W : World}
theorem fHop0 : (Instr.fieldAt 27 (.pointer (some ⟨g, o, none⟩)) 0).run Tryz.prog W = .ok (.pointer (some ⟨g, o, none⟩)) W := by go_simp
theorem fHop1 : (Instr.fieldAt 27 (.pointer (some ⟨g, o, none⟩)) 1).run Tryz.prog W = .ok (.pointer (some ⟨g, o + 32, none⟩)) W := by go_simp
theorem fHop2 : (Instr.fieldAt 27 (.pointer (some ⟨g, o, none⟩)) 2).run Tryz.prog W = .ok (.pointer (some ⟨g, o + 64, none⟩)) W := by go_simp
theorem fHop3 : (Instr.fieldAt 27 (.pointer (some ⟨g, o, none⟩)) 3).run Tryz.prog W = .ok (.pointer (some ⟨g, o + 65, none⟩)) W := by go_simp
theorem fEdge0 : (Instr.fieldAt 44 (.pointer (some ⟨g, o, none⟩)) 0).run Tryz.prog W = .ok (.pointer (some ⟨g, o, none⟩)) W := by go_simp
theorem fEdge1 : (Instr.fieldAt 44 (.pointer (some ⟨g, o, none⟩)) 1).run Tryz.prog W = .ok (.pointer (some ⟨g, o + 32, none⟩)) W := by go_simp
theorem fEdge2 : (Instr.fieldAt 44 (.pointer (some ⟨g, o, none⟩)) 2).run Tryz.prog W = .ok (.pointer (some ⟨g, o + 64, none⟩)) W := by go_simp
theorem fEdge3 : (Instr.fieldAt 44 (.pointer (some ⟨g, o, none⟩)) 3).run Tryz.prog W = .ok (.pointer (some ⟨g, o + 66, none⟩)) W := by go_simp
theorem ldI64 {v : Int} (hc : W.cell? ⟨g, o, none⟩ = some (.int .i64 v)) : (Instr.loadAt 2 (.pointer (some ⟨g, o, none⟩))).run Tryz.prog W = .ok (.int .i64 v) W := by go_simp
end
theorem eqg_any {b : BinOp} (hb : (b != .eql && b != .neq) = true) {T : TypeId} {x y : Operand} {vx vy : Value} {P : Program} {W : World} : (eqGuard b T x y vx vy).run P W = .ok () W := by
  cases b <;> first | rfl | cases hb
theorem arr_split (cs : Array Value) (a b : Nat) (h : cs.size = a + b) : cs.toList = (List.range a).map (fun i => cs.getD i undef) ++ (List.range b).map (fun i => cs.getD (a + i) undef) := by
  have h1 := congrArg Array.toList (arr_range cs (a + b) h)
  rw [h1, List.range_add, List.map_append, List.map_map]
  rfl
theorem buildHopR0 (f : Nat → Value) (w : World) : (Instr.build 68 #[(0, .agg ((List.range 66).map f).toArray)]).run Tryz.prog w = .ok (.agg ((List.range 66).map f).toArray) w := by kernel_rfl
theorem buildHopR {h : Hop} (hw : h.wf) (w : World) : (Instr.build 68 #[(0, .agg (hopC h))]).run Tryz.prog w = .ok (.agg (hopC h)) w := by
  rw [arr_range (hopC h) 66 (hopC_size hw)]
  exact buildHopR0 _ w
theorem cHop2 {w : World} {g : Nat} {t : TypeId} {h : Hop} (hw : h.wf) (hr : Row w g t (hopC h)) : w.cell? ⟨g, 64, none⟩ = some (.int .i64 h.amt) := (hr.cell 64).trans (hopC_amt hw)
theorem cHop3 {w : World} {g : Nat} {t : TypeId} {h : Hop} (hw : h.wf) (hr : Row w g t (hopC h)) : w.cell? ⟨g, 65, none⟩ = some (.int .i64 h.exp) := (hr.cell 65).trans (hopC_exp hw)
theorem idxHop {b o n c i : Nat} (W : World) (h : i < n) : (Instr.indexAt 22 (.slice (some ⟨b, o, none⟩) n c) (.int .i64 (i : Int))).run Tryz.prog W = .ok (.pointer (some ⟨b, o + i * 66, none⟩)) W := by
  have h1 : (i : Int) < (n : Int) := by omega
  have h2 : (0 : Int) ≤ (i : Int) := by omega
  have h3 := infoHop
  go_simp
theorem idxEdge {b o n c i : Nat} (W : World) (h : i < n) : (Instr.indexAt 40 (.slice (some ⟨b, o, none⟩) n c) (.int .i64 (i : Int))).run Tryz.prog W = .ok (.pointer (some ⟨b, o + i * 67, none⟩)) W := by
  have h1 : (i : Int) < (n : Int) := by omega
  have h2 : (0 : Int) ≤ (i : Int) := by omega
  have h3 := infoEdge
  go_simp
theorem loadHopM {w : World} {b o : Nat} {h : Hop} (hw : h.wf) (hr : w.rangeAt b o (hopL h)) : (Instr.loadAt 27 (.pointer (some ⟨b, o, none⟩))).run Tryz.prog w = .ok (.agg (hopC h)) w := by
  have := run_loadAt_mid (P := Tryz.prog) w b o 27 (hopL h) _ hr Tryz.underlying27 rfl (by rw [hopL_len hw]; exact infoHop)
  rwa [Array.toArray_toList] at this
theorem loadEdgeM {w : World} {b o : Nat} {e : Rt.Edge} (hw : e.wf) (hr : w.rangeAt b o (edgeL e)) : (Instr.loadAt 44 (.pointer (some ⟨b, o, none⟩))).run Tryz.prog w = .ok (.agg (edgeC e)) w := by
  have := run_loadAt_mid (P := Tryz.prog) w b o 44 (edgeL e) _ hr Tryz.underlying44 rfl (by rw [edgeL_len hw]; exact infoEdge)
  rwa [Array.toArray_toList] at this
theorem newHop (w : World) {h : Hop} (hw : h.wf) : ∃ w', (Instr.storeAt 27 (.pointer (some ⟨w.heap.size, 0, none⟩)) (.agg (hopC h))).run Tryz.prog (w.alloc (.cells (hopC noHop) 27)) = .ok () w' ∧ Row w' w.heap.size 27 (hopC h) ∧ Later w w' := by
  obtain ⟨w', h1, h2, h3⟩ := storeHop noHop_wf hw (Row.new w 27 (hopC noHop))
  exact ⟨w', h1, h2, Below.grown (below_new w _) h3 (by simp) (fun j e => by cases e; exact Nat.le_refl _)⟩
set_option maxRecDepth 100000 in
set_option maxHeartbeats 1000000 in
theorem wrap_one (h : Hop) (hw : h.wf) (hp : paid h.amt h.exp = true) (hn : (h.next == zh) = false) (g : Nat) (w : World) (hr : Row w g 27 (hopC h)) :
    Calls Tryz.prog 9 #[.slice (some ⟨g, 0, none⟩) 1 1] w fun e w' => e = .returned (.tuple #[.string ⟨#[]⟩, .int .i64 2]) ∧ Later w w' := by
  refine Calls.post fun Φ HΦ => ?_
  have hpd := fun W => rpaid_any h.amt h.exp W
  rw [hp] at hpd
  have hen := fun W => rends_any h hw W
  rw [hn] at hen
  have hix := fun W => idxHop (b := g) (o := 0) (n := 1) (c := 1) (i := 0) W (by decide)
  have hld := loadHopR hw hr
  obtain ⟨w1, hst, hr1, hL1⟩ := newHop w hw
  have hl5 := fun W (hL : Later w1 W) => loadHopR hw (hr1.later hL)
  have hc2 := fun W (hL : Later w1 W) => cHop2 hw (hr1.later hL)
  have hc3 := fun W (hL : Later w1 W) => cHop3 hw (hr1.later hL)
  go_enter Tryz.func9, Tryz.ntmps9
  go_wp2_with fail
  go_loopw [12] (fun t wr => t = .int .i64 0 ∧ wr = w) (fun t _ => 0)
  case atStart => exact ⟨rfl, rfl⟩
  case round =>
    obtain ⟨rfl, rfl⟩ := hrel
    clear hr hr1
    go_upto_region 4 with (first
      | (guard_target =~ wpList _ _ _ (_ :: _) _ _; refine wpList_idx rfl 22 _ _ rfl (.slice (some ⟨g, 0, none⟩) 1 1) (.int .i64 0) rfl rfl (hix _) ?_)
      | (guard_target =~ wpList _ _ _ (_ :: _) _ _; refine wpList_load rfl 27 (.tmp 15) rfl (.pointer (some ⟨g, 0, none⟩)) rfl hld ?_)
      | (with_reducible refine wpList_alloc rfl 27 rfl (allocHop _) ?_)
      | (guard_target =~ wpList _ _ _ (_ :: _) _ _; refine wpList_store rfl 27 (.tmp 5) (.tmp 16) rfl (.pointer (some ⟨wr.heap.size, 0, none⟩)) (.agg (hopC h)) rfl rfl hst ?_)
      | fail)
    obtain ⟨q, hq⟩ : ∃ q, q = wr.heap.size := ⟨_, rfl⟩
    rw [← hq] at hl5 hc2 hc3 ⊢
    refine wp_region_seqL [Pr.eq (.pointer (some ⟨q, 64, none⟩)), Pr.eq (.int .i64 h.amt), Pr.eq (.pointer (some ⟨q, 65, none⟩)), Pr.eq (.int .i64 h.exp), Pr.eq (.bool true), Pr.eq (.bool false), Pr.eq (.bool false), Pr.eq (.agg (hopC h)), Pr.eq (.agg (hopC h)), Pr.eq (.bool false), Pr.eq (.int .i64 0), Pr.eq (.slice (some ⟨g, 0, none⟩) 1 1), Pr.eq (.int .i64 (1 : Int)), Pr.eq (.int .i64 0), Pr.eq (.bool true), Pr.eq (.bool true), Pr.eq (.bool true)] (by kernel_rfl) (by kernel_rfl) (by kernel_rfl) ⟨?_, ?_, ?_, ?_, ?_, ?_, ?_, ?_, ?_, ?_, ?_, ?_, ?_, ?_, ?_, ?_, ?_, trivial⟩ ?_
    · exact fun ac W hL he => stepOk_want rfl (op_fieldAddr rfl (he.keep (.tmp 5) (by kernel_rfl)) fHop2 rfl)
    · exact fun ac W hL he => stepOk_want rfl (op_load rfl (he.get 0 17 (by kernel_rfl) rfl) (ldI64 (hc2 W hL)) rfl)
    · exact fun ac W hL he => stepOk_want rfl (op_fieldAddr rfl (he.keep (.tmp 5) (by kernel_rfl)) fHop3 rfl)
    · exact fun ac W hL he => stepOk_want rfl (op_load rfl (he.get 2 19 (by kernel_rfl) rfl) (ldI64 (hc3 W hL)) rfl)
    · intro ac W hL he; refine stepOk_want rfl ?_; have e0 : ac.eval (.tmp 18) = .int .i64 h.amt := (he.get 1 18 (by kernel_rfl) rfl); have e1 : ac.eval (.tmp 20) = .int .i64 h.exp := (he.get 3 20 (by kernel_rfl) rfl); exact op_callF (vs := #[.int .i64 h.amt, .int .i64 h.exp]) rfl (by simp only [List.map_toArray, List.map_cons, List.map_nil, e0, e1]) (enters_of Tryz.func22 (by kernel_rfl) rfl) (((hpd W)).mono fun e W' ⟨he', hw'⟩ => ⟨_, he', hw' ▸ Later.refl _, rfl⟩)
    · exact fun ac W hL he => stepOk_want rfl (op_not rfl (he.get 4 21 (by kernel_rfl) rfl) rfl)
    · exact fun ac W hL he => stepOk_want rfl (op_move rfl (he.get 5 22 (by kernel_rfl) rfl))
    · exact fun ac W hL he => stepOk_yes (j := 6) (t := 23) (b := false) rfl rfl (he.get 6 23 (by kernel_rfl) rfl) (op_load rfl (he.keep (.tmp 5) (by kernel_rfl)) (hl5 W hL) rfl)
    · intro ac W hL he; refine stepOk_yes (j := 6) (t := 23) (b := false) rfl rfl (he.get 6 23 (by kernel_rfl) rfl) ?_; have e0 : ac.eval (.tmp 24) = .agg (hopC h) := (he.get 7 24 (by kernel_rfl) rfl); exact op_build (vs := #[(0, .agg (hopC h))]) rfl (by simp only [List.map_toArray, List.map_cons, List.map_nil, e0]) (buildHopR hw W) rfl
    · intro ac W hL he; refine stepOk_yes (j := 6) (t := 23) (b := false) rfl rfl (he.get 6 23 (by kernel_rfl) rfl) ?_; have e0 : ac.eval (.tmp 25) = .agg (hopC h) := (he.get 8 25 (by kernel_rfl) rfl); exact op_callF (vs := #[.agg (hopC h)]) rfl (by simp only [List.map_toArray, List.map_cons, List.map_nil, e0]) (enters_of Tryz.func23 (by kernel_rfl) rfl) (((hen W)).mono fun e W' ⟨he', hb⟩ => ⟨_, he', hb, rfl⟩)
    · exact fun ac W hL he => stepOk_yes (j := 6) (t := 23) (b := false) rfl rfl (he.get 6 23 (by kernel_rfl) rfl) (op_move rfl (he.keep (.tmp 4) (by kernel_rfl)))
    · exact fun ac W hL he => stepOk_yes (j := 6) (t := 23) (b := false) rfl rfl (he.get 6 23 (by kernel_rfl) rfl) (op_move rfl (he.keep (.tmp 0) (by kernel_rfl)))
    · exact fun ac W hL he => stepOk_yes (j := 6) (t := 23) (b := false) rfl rfl (he.get 6 23 (by kernel_rfl) rfl) (op_len Tryz.underlying22 rfl (he.get 11 28 (by kernel_rfl) rfl) rfl)
    · exact fun ac W hL he => stepOk_yes (j := 6) (t := 23) (b := false) rfl rfl (he.get 6 23 (by kernel_rfl) rfl) (op_binOp rfl (he.get 12 29 (by kernel_rfl) rfl) rfl (eqg_any rfl) (by kernel_rfl) rfl)
    · exact fun ac W hL he => stepOk_yes (j := 6) (t := 23) (b := false) rfl rfl (he.get 6 23 (by kernel_rfl) rfl) (op_binOp rfl (he.get 10 27 (by kernel_rfl) rfl) (he.get 13 30 (by kernel_rfl) rfl) (by kernel_rfl) (by kernel_rfl) rfl)
    · exact fun ac W hL he => stepOk_yes (j := 6) (t := 23) (b := false) rfl rfl (he.get 6 23 (by kernel_rfl) rfl) (op_binOp rfl (he.get 9 26 (by kernel_rfl) rfl) (he.get 14 31 (by kernel_rfl) rfl) (by kernel_rfl) (by kernel_rfl) rfl)
    · exact fun ac W hL he => stepOk_want rfl (op_pick (b := false) rfl (he.get 6 23 (by kernel_rfl) rfl) (he.get 15 32 (by kernel_rfl) rfl))
    intro xs W hL hx
    have v16 : xs 16 = .bool true := hx 16 (by decide)
    simp only [putL, Nat.reduceAdd, Act.put, List.setIfInBounds_toArray, List.set_cons_succ, List.set_cons_zero]
    rw [v16]
    clear hx
    go_wp2_with fail
    exact HΦ.out _ _ ⟨rfl, hL1.step hL⟩
end Go.Proofs.YtloiaaolnfimgaaGreat
