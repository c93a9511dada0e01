/- Route: steps, edges, invoices, compared. -/
import Derived.Test.YtloiaaolnfimgaaGreatRk3
import Derived.Laws.StructEq
import Derived.ChangeKeysEq
import Derived.Stop.BytesEq
set_option linter.unusedVariables false
set_option linter.unusedSimpArgs false
namespace Go.Proofs.YtloiaaolnfimgaaGreat
open Go.RowKit Rt
section
variable {P : Program}
theorem eqFields_cons (d : Nat) (xs ys : Array Value) (f : Field) (fs : List Field) {T : TypeId} {off : Nat} {a c : Value} {b r : Bool} {w : World} (hn : decide (f.name = "_") = false) (hT : f.type = T) (ho : f.offset = off) (h1 : ∀ w, (part T xs off).run P w = .ok a w) (h2 : ∀ w, (part T ys off).run P w = .ok c w) (he : ∀ w, (Op.equalIn d T a c).run P w = .ok b w) (hr : (Op.eqFields d xs ys fs).run P w = .ok r w) : (Op.eqFields d xs ys (f :: fs)).run P w = .ok (b && r) w := by
  subst hT ho
  unfold Op.eqFields
  rw [if_pos (of_decide_eq_false hn)]
  simp only [Sem.run_bind, h1, h2, he, Result.andThen_ok]
  cases b
  · simp
  · simpa using hr
theorem eqFields_nil (d : Nat) (xs ys : Array Value) (w : World) : (Op.eqFields d xs ys []).run P w = .ok true w := by simp [Op.eqFields]
end
theorem part64 {cs : Array Value} {off : Nat} {v : Value} (h : cs[off]? = some v) (w : World) : (part 2 cs off).run Tryz.prog w = .ok v w := by
  unfold part
  go_simp
theorem partHash0 (cs : Array Value) (off : Nat) (w : World) : (part 25 cs off).run Tryz.prog w = .ok (.agg (cs.extract off (off + 32))) w := by
  unfold part
  go_simp
theorem extract_of {cs vs : Array Value} {o n : Nat} (hn : vs.size = n) (hc : o + n ≤ cs.size) (h : ∀ j, j < n → cs[o + j]? = vs[j]?) : cs.extract o (o + n) = vs := by
  apply Array.ext_getElem?
  intro j
  rw [Array.getElem?_extract]
  by_cases hj : j < n
  · rw [if_pos (by omega)]
    exact h j hj
  · rw [if_neg (by omega), Array.getElem?_eq_none (by omega)]
theorem partHash {cs : Array Value} {off : Nat} {h : List UInt8} (hl : h.length = 32) (hs : off + 32 ≤ cs.size) (hg : ∀ i, i < 32 → cs[off + i]? = (hC h)[i]?) (w : World) : (part 25 cs off).run Tryz.prog w = .ok (.agg (hC h)) w := by
  rw [partHash0, extract_of (hC_size _ (Nat.le_of_eq hl)) hs hg]
noncomputable def fld (T : TypeId) (i : Nat) : Field := (Tryz.prog.fieldsOf T).toList.getD i default
theorem eqHash (d : Nat) (a b : List UInt8) (ha : a.length = 32) (hb : b.length = 32) (w : World) : (Op.equalIn (d + 2) 25 (.agg (hC a)) (.agg (hC b))).run Tryz.prog w = .ok (a == b) w := by
  rw [hC_cells a ha, hC_cells b hb, run_equalIn_bytes w d 25 5 32 Tryz.underlying25 Tryz.underlying5 (fun w => by kernel_rfl) a b ha hb]
theorem eq64 (d : Nat) (a b : Int) (w : World) : (Op.equalIn (d + 1) 2 (.int .i64 a) (.int .i64 b)).run Tryz.prog w = .ok (a == b) w := run_equalIn_int w _ _ _ _ _ _ Tryz.underlying2
theorem flds_hop : (Tryz.prog.fieldsOf 27).toList = [fld 27 0, fld 27 1, fld 27 2, fld 27 3] := by kernel_rfl
theorem flds_inv : (Tryz.prog.fieldsOf 51).toList = [fld 51 0, fld 51 1, fld 51 2, fld 51 3] := by kernel_rfl
theorem flds_edge : (Tryz.prog.fieldsOf 44).toList = [fld 44 0, fld 44 1, fld 44 2, fld 44 3] := by kernel_rfl
theorem flds_fee : (Tryz.prog.fieldsOf 42).toList = [fld 42 0, fld 42 1] := by kernel_rfl
theorem partHopK {h : Hop} (hw : h.wf) (w : World) : (part 25 (hopC h) 0).run Tryz.prog w = .ok (.agg (hC h.key)) w :=
  partHash hw.1 (by rw [hopC_size hw]; decide) (fun i hi => by rw [Nat.zero_add]; exact hopC_key hw i hi) w
theorem partHopN {h : Hop} (hw : h.wf) (w : World) : (part 25 (hopC h) 32).run Tryz.prog w = .ok (.agg (hC h.next)) w :=
  partHash hw.2 (by rw [hopC_size hw]; decide) (fun i hi => hopC_next hw i hi) w
theorem partEdgeK {h : Rt.Edge} (hw : h.wf) (w : World) : (part 25 (edgeC h) 0).run Tryz.prog w = .ok (.agg (hC h.key)) w :=
  partHash hw.1 (by rw [edgeC_size hw]; decide) (fun i hi => by rw [Nat.zero_add]; exact edgeC_key hw i hi) w
theorem partEdgeN {h : Rt.Edge} (hw : h.wf) (w : World) : (part 25 (edgeC h) 32).run Tryz.prog w = .ok (.agg (hC h.chan)) w :=
  partHash hw.2 (by rw [edgeC_size hw]; decide) (fun i hi => edgeC_chan hw i hi) w
theorem partFee0 (cs : Array Value) (off : Nat) (w : World) : (part 42 cs off).run Tryz.prog w = .ok (.agg (cs.extract off (off + 2))) w := by
  unfold part
  go_simp
theorem partEdgeF {h : Rt.Edge} (hw : h.wf) (w : World) : (part 42 (edgeC h) 64).run Tryz.prog w = .ok (.agg #[.int .i64 h.base, .int .i64 h.rate]) w := by
  rw [partFee0, extract_of (n := 2) (vs := #[.int .i64 h.base, .int .i64 h.rate]) rfl (by rw [edgeC_size hw]; decide) (fun j hj => by
    rcases j with _ | _ | j
    · exact (edgeC_num hw).1
    · exact (edgeC_num hw).2.1
    · omega)]
def hEq (h h' : Hop) : Bool := (h.key == h'.key) && ((h.next == h'.next) && ((h.amt == h'.amt) && ((h.exp == h'.exp) && true)))
theorem eqHop (d : Nat) {h h' : Hop} (hw : h.wf) (hw' : h'.wf) (w : World) : (Op.equalIn (d + 4) 27 (.agg (hopC h)) (.agg (hopC h'))).run Tryz.prog w = .ok (hEq h h') w := by
  rw [run_equalIn_struct w (d + 3) _ _ _ (by kernel_rfl) (by kernel_rfl), flds_hop]
  unfold hEq
  refine eqFields_cons _ _ _ _ _ (T := 25) (off := 0) (by kernel_rfl) (by kernel_rfl) (by kernel_rfl) (partHopK hw) (partHopK hw') (eqHash (d + 1) _ _ hw.1 hw'.1) ?_
  refine eqFields_cons _ _ _ _ _ (T := 25) (off := 32) (by kernel_rfl) (by kernel_rfl) (by kernel_rfl) (partHopN hw) (partHopN hw') (eqHash (d + 1) _ _ hw.2 hw'.2) ?_
  refine eqFields_cons _ _ _ _ _ (T := 2) (off := 64) (by kernel_rfl) (by kernel_rfl) (by kernel_rfl) (part64 (hopC_amt hw)) (part64 (hopC_amt hw')) (eq64 _ _ _) ?_
  refine eqFields_cons _ _ _ _ _ (T := 2) (off := 65) (by kernel_rfl) (by kernel_rfl) (by kernel_rfl) (part64 (hopC_exp hw)) (part64 (hopC_exp hw')) (eq64 _ _ _) ?_
  exact eqFields_nil _ _ _ _
theorem eqInv (d : Nat) {h h' : Hop} (hw : h.wf) (hw' : h'.wf) (w : World) : (Op.equalIn (d + 4) 51 (.agg (hopC h)) (.agg (hopC h'))).run Tryz.prog w = .ok (hEq h h') w := by
  rw [run_equalIn_struct w (d + 3) _ _ _ (by kernel_rfl) (by kernel_rfl), flds_inv]
  unfold hEq
  refine eqFields_cons _ _ _ _ _ (T := 25) (off := 0) (by kernel_rfl) (by kernel_rfl) (by kernel_rfl) (partHopK hw) (partHopK hw') (eqHash (d + 1) _ _ hw.1 hw'.1) ?_
  refine eqFields_cons _ _ _ _ _ (T := 25) (off := 32) (by kernel_rfl) (by kernel_rfl) (by kernel_rfl) (partHopN hw) (partHopN hw') (eqHash (d + 1) _ _ hw.2 hw'.2) ?_
  refine eqFields_cons _ _ _ _ _ (T := 2) (off := 64) (by kernel_rfl) (by kernel_rfl) (by kernel_rfl) (part64 (hopC_amt hw)) (part64 (hopC_amt hw')) (eq64 _ _ _) ?_
  refine eqFields_cons _ _ _ _ _ (T := 2) (off := 65) (by kernel_rfl) (by kernel_rfl) (by kernel_rfl) (part64 (hopC_exp hw)) (part64 (hopC_exp hw')) (eq64 _ _ _) ?_
  exact eqFields_nil _ _ _ _
theorem eqFeeV (d : Nat) (a b c e : Int) (w : World) : (Op.equalIn (d + 3) 42 (.agg #[.int .i64 a, .int .i64 b]) (.agg #[.int .i64 c, .int .i64 e])).run Tryz.prog w = .ok ((a == c) && ((b == e) && true)) w := by
  rw [run_equalIn_struct w (d + 2) _ _ _ (by kernel_rfl) (by kernel_rfl), flds_fee]
  refine eqFields_cons _ _ _ _ _ (T := 2) (off := 0) (by kernel_rfl) (by kernel_rfl) (by kernel_rfl) (part64 rfl) (part64 rfl) (eq64 _ _ _) ?_
  refine eqFields_cons _ _ _ _ _ (T := 2) (off := 1) (by kernel_rfl) (by kernel_rfl) (by kernel_rfl) (part64 rfl) (part64 rfl) (eq64 _ _ _) ?_
  exact eqFields_nil _ _ _ _
def eEq (h h' : Rt.Edge) : Bool := (h.key == h'.key) && ((h.chan == h'.chan) && (((h.base == h'.base) && ((h.rate == h'.rate) && true)) && ((h.delta == h'.delta) && true)))
theorem eqEdge (d : Nat) {h h' : Rt.Edge} (hw : h.wf) (hw' : h'.wf) (w : World) : (Op.equalIn (d + 4) 44 (.agg (edgeC h)) (.agg (edgeC h'))).run Tryz.prog w = .ok (eEq h h') w := by
  rw [run_equalIn_struct w (d + 3) _ _ _ (by kernel_rfl) (by kernel_rfl), flds_edge]
  unfold eEq
  refine eqFields_cons _ _ _ _ _ (T := 25) (off := 0) (by kernel_rfl) (by kernel_rfl) (by kernel_rfl) (partEdgeK hw) (partEdgeK hw') (eqHash (d + 1) _ _ hw.1 hw'.1) ?_
  refine eqFields_cons _ _ _ _ _ (T := 25) (off := 32) (by kernel_rfl) (by kernel_rfl) (by kernel_rfl) (partEdgeN hw) (partEdgeN hw') (eqHash (d + 1) _ _ hw.2 hw'.2) ?_
  refine eqFields_cons _ _ _ _ _ (T := 42) (off := 64) (by kernel_rfl) (by kernel_rfl) (by kernel_rfl) (partEdgeF hw) (partEdgeF hw') (eqFeeV d _ _ _ _) ?_
  refine eqFields_cons _ _ _ _ _ (T := 2) (off := 66) (by kernel_rfl) (by kernel_rfl) (by kernel_rfl) (part64 (edgeC_num hw).2.2) (part64 (edgeC_num hw').2.2) (eq64 _ _ _) ?_
  exact eqFields_nil _ _ _ _
theorem hEq_refl (h : Hop) : hEq h h = true := by simp [hEq]
theorem eEq_refl (h : Rt.Edge) : eEq h h = true := by simp [eEq]
theorem neqHopMe {h : Hop} (hw : h.wf) (w : World) : (binOp .neq 27 (.agg (hopC h)) (.agg (hopC h))).run Tryz.prog w = .ok (.bool false) w := by
  rw [run_neq_struct, eqHop 9996 hw hw, hEq_refl]
  rfl
theorem neqEdgeMe {h : Rt.Edge} (hw : h.wf) (w : World) : (binOp .neq 44 (.agg (edgeC h)) (.agg (edgeC h))).run Tryz.prog w = .ok (.bool false) w := by
  rw [run_neq_struct, eqEdge 9996 hw hw, eEq_refl]
  rfl
theorem eqgHop (b : BinOp) (x y : Operand) (xs ys : Array Value) (w : World) : (eqGuard b 27 x y (.agg xs) (.agg ys)).run Tryz.prog w = .ok () w := run_eqGuard_agg w b _ x y xs ys (by kernel_rfl)
theorem eqgEdge (b : BinOp) (x y : Operand) (xs ys : Array Value) (w : World) : (eqGuard b 44 x y (.agg xs) (.agg ys)).run Tryz.prog w = .ok () w := run_eqGuard_agg w b _ x y xs ys (by kernel_rfl)
end Go.Proofs.YtloiaaolnfimgaaGreat
