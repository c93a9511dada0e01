/- Secrets: keeps of the same content are equal. -/
import Derived.Test.YthabgfghogdkcaaDoorSc8
import Derived.Laws.StructEq
import Derived.ChangeKeysEq
set_option linter.unusedVariables false
set_option linter.unusedSimpArgs false
namespace Go.Proofs.YthabgfghogdkcaaDoor
open Go.RowKit
section
variable {P : Program}
theorem eqFields_refl (d : Nat) (xs : Array Value) : ∀ (fs : List Field), (∀ f ∈ fs, ∃ a, (∀ w, (part f.type xs f.offset).run P w = .ok a w) ∧ ∀ w, (Op.equalIn d f.type a a).run P w = .ok true w) → ∀ w, (Op.eqFields d xs xs fs).run P w = .ok true w
  | [], _, w => by simp [Op.eqFields]
  | f :: fs, h, w => by
    obtain ⟨a, h1, h2⟩ := h f (by simp)
    have ih := eqFields_refl d xs fs (fun g hg => h g (by simp [hg])) w
    unfold Op.eqFields
    split
    · simp only [Sem.run_bind, h1, h2, Result.andThen_ok]
      exact ih
    · exact ih
theorem eqItems_refl (d : Nat) (e : TypeId) (c : Nat) (xs : Array Value) : ∀ (is : List Nat), (∀ i ∈ is, ∃ a, (∀ w, (part e xs (i * c)).run P w = .ok a w) ∧ ∀ w, (Op.equalIn d e a a).run P w = .ok true w) → ∀ w, (Op.eqItems d e c xs xs is).run P w = .ok true w
  | [], _, w => by simp [Op.eqItems]
  | i :: is, h, w => by
    obtain ⟨a, h1, h2⟩ := h i (by simp)
    have ih := eqItems_refl d e c xs is (fun g hg => h g (by simp [hg])) w
    unfold Op.eqItems
    simp only [Sem.run_bind, h1, h2, Result.andThen_ok]
    exact ih
end
theorem part64 {cs : Array Value} {off : Nat} {v : Value} (h : cs[off]? = some v) (w : World) : (part 2 cs off).run Tryd.prog w = .ok v w := by
  unfold part
  go_simp
theorem partBool {cs : Array Value} {off : Nat} {v : Value} (h : cs[off]? = some v) (w : World) : (part 4 cs off).run Tryd.prog w = .ok v w := by
  unfold part
  go_simp
theorem partHash (cs : Array Value) (off : Nat) (w : World) : (part 23 cs off).run Tryd.prog w = .ok (.agg (cs.extract off (off + 32))) w := by
  unfold part
  go_simp
theorem partKept (cs : Array Value) (off : Nat) (w : World) : (part 57 cs off).run Tryd.prog w = .ok (.agg (cs.extract off (off + 33))) w := by
  unfold part
  go_simp
theorem partPlaces (cs : Array Value) (off : Nat) (w : World) : (part 58 cs off).run Tryd.prog w = .ok (.agg (cs.extract off (off + 1056))) w := by
  unfold part
  go_simp
theorem partCount (cs : Array Value) (off : Nat) (w : World) : (part 55 cs off).run Tryd.prog w = .ok (.agg (cs.extract off (off + 1))) w := by
  unfold part
  go_simp
noncomputable def fld (T : TypeId) (i : Nat) : Field := (Tryd.prog.fieldsOf T).toList.getD i default
theorem flds_kept : (Tryd.prog.fieldsOf 57).toList = [fld 57 0, fld 57 1] := by kernel_rfl
theorem flds_count : (Tryd.prog.fieldsOf 55).toList = [fld 55 0] := by kernel_rfl
theorem flds_keep : (Tryd.prog.fieldsOf 60).toList = [fld 60 0, fld 60 1, fld 60 2] := by kernel_rfl
theorem extract_of {cs vs : Array Value} {o n : Nat} (hn : vs.size = n) (hc : o + n ≤ cs.size) (h : ∀ j, j < n → cs[o + j]? = vs[j]?) : cs.extract o (o + n) = vs := by
  apply Array.ext_getElem?
  intro j
  rw [Array.getElem?_extract]
  by_cases hj : j < n
  · rw [if_pos (by omega)]
    exact h j hj
  · rw [if_neg (by omega), Array.getElem?_eq_none (by omega)]
theorem eqHash_refl (d : Nat) (s : List UInt8) (hs : s.length = 32) (w : World) : (Op.equalIn (d + 2) 23 (.agg (hC s)) (.agg (hC s))).run Tryd.prog w = .ok true w := by
  rw [hC_cells s hs, run_equalIn_bytes w d 23 5 32 Tryd.underlying23 Tryd.underlying5 (fun w => by kernel_rfl) s s hs hs]
  simp
set_option maxRecDepth 100000 in
theorem eqKept_refl (d : Nat) (i : Nat) (s : List UInt8) (hs : s.length = 32) (w : World) : (Op.equalIn (d + 3) 57 (.agg (ptC i s)) (.agg (ptC i s))).run Tryd.prog w = .ok true w := by
  rw [run_equalIn_struct w (d + 2) _ _ _ (by kernel_rfl) (by kernel_rfl), flds_kept]
  refine eqFields_refl _ _ _ (fun f hf => ?_) w
  simp only [List.mem_cons, List.not_mem_nil, or_false] at hf
  rcases hf with rfl | rfl
  · refine ⟨.int .i64 (i : Int), fun w => ?_, fun w => ?_⟩
    · rw [show (fld 57 0).type = 2 by kernel_rfl, show (fld 57 0).offset = 0 by kernel_rfl]
      exact part64 (ptC_ix i s) w
    · rw [show (fld 57 0).type = 2 by kernel_rfl, run_equalIn_int w _ _ _ _ _ _ Tryd.underlying2]
      simp
  · refine ⟨.agg (hC s), fun w => ?_, fun w => ?_⟩
    · rw [show (fld 57 1).type = 23 by kernel_rfl, show (fld 57 1).offset = 1 by kernel_rfl]
      rw [partHash, extract_of (vs := hC s) (hC_size _ (Nat.le_of_eq hs)) (by rw [ptC_size _ _ (Nat.le_of_eq hs)]; decide) (fun j hj => by
        unfold ptC
        rw [Array.getElem?_append_right (by simp)]
        simp)]
    · rw [show (fld 57 1).type = 23 by kernel_rfl]
      exact eqHash_refl d s hs w
set_option maxRecDepth 100000 in
theorem eqKeep (n : Int) (ix : Nat → Nat) (sc : Nat → List UInt8) (hs : ∀ p, (sc p).length = 32) (w : World) : (binOp .eql 60 (.agg (kC n ix sc true)) (.agg (kC n ix sc true))).run Tryd.prog w = .ok (.bool true) w := by
  have hz := kC_size n ix sc true
  rw [run_eql_struct]
  have key : ∀ w, (Op.equalIn 10000 60 (.agg (kC n ix sc true)) (.agg (kC n ix sc true))).run Tryd.prog w = .ok true w := fun w => by
    rw [run_equalIn_struct w 9999 _ _ _ (by kernel_rfl) (by kernel_rfl), flds_keep]
    refine eqFields_refl _ _ _ (fun f hf => ?_) w
    simp only [List.mem_cons, List.not_mem_nil, or_false] at hf
    rcases hf with rfl | rfl | rfl
    · refine ⟨.agg #[.int .i64 n], fun w => ?_, fun w => ?_⟩
      · rw [show (fld 60 0).type = 55 by kernel_rfl, show (fld 60 0).offset = 0 by kernel_rfl, partCount, extract_of (vs := #[.int .i64 n]) (o := 0) (n := 1) rfl (by rw [hz]; decide) (fun j hj => by
          obtain rfl : j = 0 := by omega
          exact kC_n _ _ _ _)]
      · rw [show (fld 60 0).type = 55 by kernel_rfl, run_equalIn_struct w 9998 _ _ _ (by kernel_rfl) (by kernel_rfl), flds_count]
        refine eqFields_refl _ _ _ (fun f hf => ?_) w
        simp only [List.mem_cons, List.not_mem_nil, or_false] at hf
        subst hf
        refine ⟨.int .i64 n, fun w => ?_, fun w => ?_⟩
        · rw [show (fld 55 0).type = 2 by kernel_rfl, show (fld 55 0).offset = 0 by kernel_rfl]
          exact part64 rfl w
        · rw [show (fld 55 0).type = 2 by kernel_rfl, run_equalIn_int w _ _ _ _ _ _ Tryd.underlying2]
          simp
    · refine ⟨.agg ((kC n ix sc true).extract 1 (1 + 1056)), fun w => ?_, fun w => ?_⟩
      · rw [show (fld 60 1).type = 58 by kernel_rfl, show (fld 60 1).offset = 1 by kernel_rfl, partPlaces]
      · obtain ⟨i, hi, hic⟩ := Option.map_eq_some_iff.1 infoP
        rw [show (fld 60 1).type = 58 by kernel_rfl, run_equalIn_array w 9998 (e := 57) (n := 32) (i := i) _ _ Tryd.underlying58 hi, show Tryd.prog.cellsOf 57 = 33 by kernel_rfl]
        refine eqItems_refl _ _ _ _ _ (fun p hp => ?_) w
        have hp := List.mem_range.1 hp
        refine ⟨.agg (ptC (ix p) (sc p)), fun w => ?_, fun w => eqKept_refl _ _ _ (hs p) w⟩
        rw [partKept, extract_of (vs := ptC (ix p) (sc p)) (ptC_size _ _ (Nat.le_of_eq (hs p))) (by rw [Array.size_extract, hz]; omega) (fun j hj => by
          rw [Array.getElem?_extract, if_pos (by rw [hz]; omega), ← kC_place n ix sc true p hp (Nat.le_of_eq (hs p)) j hj]
          congr 1
          omega)]
    · refine ⟨.bool true, fun w => ?_, fun w => ?_⟩
      · rw [show (fld 60 2).type = 4 by kernel_rfl, show (fld 60 2).offset = 1057 by kernel_rfl]
        exact partBool (kC_made _ _ _ _) w
      · rw [show (fld 60 2).type = 4 by kernel_rfl, run_equalIn_bool' w _ _ _ _ Tryd.underlying4]
        rfl
  rw [key]
  rfl
end Go.Proofs.YthabgfghogdkcaaDoor
