/- Walks, msgs: Text. -/
import Derived.Test.YtcajhdmppfiaeaaGreatGk22
set_option linter.unusedVariables false
set_option linter.unusedSimpArgs false
namespace Go.Proofs.YtcajhdmppfiaeaaGreat
open Go.RowKit Ms
theorem wpList_lookupR {P : Program} {w : World} {ops : Array Oper} {rest : List Oper} {o : Oper} {a : Act} {Q : Exit → Act → World → Prop} (hgd : o.guard = none) (T : TypeId) (x y : Operand) (ok : Bool) (ho : o.op = .lookup T x y ok) (vx vy : Value) (hx : a.eval x = vx) (hy : a.eval y = vy) {v : Value} (hr : (Instr.lookup T vx vy ok).run P w = .ok v w) (h : wpList P ops Q rest (a.put o.dst v) w) : wpList P ops Q (o :: rest) a w := by
  refine wpList_plain hgd fun K hK => ?_
  unfold Oper.wp execOp
  simp only [ho, hx, hy, hr, Sem.run_bind, Sem.run_pure, Result.andThen_ok]
  exact hK _ _ h
theorem newKind (w : World) (k : Int) (A : Option Addr) : ∃ w' cs, (Instr.storeAt 71 (.pointer (some ⟨w.heap.size, 0, none⟩)) (kindV k A)).run Tryz.prog (w.alloc (.cells #[.string ⟨#[]⟩, .nilFunc, .slice none 0 0] 71)) = .ok () w' ∧ Row w' w.heap.size 71 cs ∧ cs[0]? = some (.string (kName k)) ∧ Later w w' := by
  obtain ⟨w', cs, h1, h2, hz, h3, h4⟩ := putKind (k := k) (A := A) (Row.new w 71 #[.string ⟨#[]⟩, .nilFunc, .slice none 0 0]) rfl
  obtain ⟨cs', e, _, _, _, _, h0⟩ := kindV_one k A
  have : cs' = cs := by
    have := e.symm.trans h2
    injection this
  subst this
  exact ⟨w', cs', h1, h3, h0, Below.grown ((Later.refl w).alloc _) h4 (by simp only [World.size_alloc]; omega) (fun j e => by cases e; exact Nat.le_refl _)⟩
set_option maxRecDepth 100000 in
theorem mtext_any (k : Int) (w : World) : Calls Tryz.prog 23 #[.int .i64 k] w fun e w' => e = .returned (.tuple #[.string (kName k), .bool (isKind k)]) ∧ Below w.heap.size w w' := by
  have hkk := kinds_any w
  go_enter Tryz.func23, Tryz.ntmps23
  go_upto_region 2 with (first
    | (go_at_call 26; refine hkk.mono ?_; clear hkk; rintro e w1 ⟨m, rfl, hK, hb1, _⟩; obtain ⟨A, hP, hr1, _⟩ := kinds_look hK k; obtain ⟨w2, cs, hst, hrow, h0, hL2⟩ := newKind w1 k A)
    | (guard_target =~ wpList _ _ _ (_ :: _) _ _; refine wpList_lookupR rfl 72 (.tmp 7) (.tmp 8) true rfl (.map (some m)) (.int .i64 k) rfl rfl (hr1 _ rfl) ?_)
    | (with_reducible refine wpList_alloc rfl 71 rfl (allocKind _) ?_)
    | (guard_target =~ wpList _ _ _ (_ :: _) _ _; refine wpList_store rfl 71 (.tmp 4) (.tmp 10) rfl (.pointer (some ⟨w1.heap.size, 0, none⟩)) (kindV k A) rfl rfl hst ?_)
    | fail)
  have c0 : w2.cell? ⟨w1.heap.size, 0, none⟩ = some (.string (kName k)) := (hrow.cell 0).trans h0
  have hb2 := hb1.trans (hL2.below.mono hb1.size)
  clear hst hrow h0 hL2 hr1 hP hK
  go_wp2_with fail
  go_ret2
  exact ⟨rfl, hb2⟩
namespace Ms
def said7 : Said := { blank 7 with id := 1 }
theorem k_body : bodyR said7 = [7, 1] ++ List.replicate 32 0 ∧ bodyE said7 = 0 := by decide +kernel
theorem k_p5 : parse [5] = blank 5 ∧ parseE [5] = 0 := by decide +kernel
theorem k_p50 : parse [5, 0] = blank 0 ∧ parseE [5, 0] = 210 := by decide +kernel
theorem k_p0 : parse [] = blank 0 ∧ parseE [] = 210 := by decide +kernel
theorem k_c8 : bodyE (blank 8) = 2 := by decide +kernel
theorem said7_wf : said7.wf := fun j hj => blank_wf 7 j hj
end Ms
theorem build7 (w : World) : (Instr.build 29 #[(0, .int .i64 7), (10, .int .i64 1)]).run Tryz.prog w = .ok (.agg (saidC said7)) w := by kernel_rfl
theorem build5 (w : World) : (Instr.build 29 #[(0, .int .i64 5)]).run Tryz.prog w = .ok (.agg (saidC (Ms.blank 5))) w := by kernel_rfl
theorem build8 (w : World) : (Instr.build 29 #[(0, .int .i64 8)]).run Tryz.prog w = .ok (.agg (saidC (Ms.blank 8))) w := by kernel_rfl
end Go.Proofs.YtcajhdmppfiaeaaGreat
