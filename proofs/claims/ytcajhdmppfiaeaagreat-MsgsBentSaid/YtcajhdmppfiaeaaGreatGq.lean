/- Msgs: what is said, compared. -/
import Derived.Test.YtcajhdmppfiaeaaGreatGc
import Derived.Laws.StructEq
import Derived.ChangeKeysEq
import Derived.Stop.BytesEq
set_option linter.unusedVariables false
set_option linter.unusedSimpArgs false
namespace Go.Proofs.YtcajhdmppfiaeaaGreat
open Go.RowKit Ms
section
variable {P : Program}
theorem eqFields_cons (d : Nat) (xs ys : Array Value) (f : Field) (fs : List Field) {T : TypeId} {off : Nat} {a c : Value} {b r : Bool} {w : World} (hn : decide (f.name = "_") = false) (hT : f.type = T) (ho : f.offset = off) (h1 : ∀ w, (part T xs off).run P w = .ok a w) (h2 : ∀ w, (part T ys off).run P w = .ok c w) (he : ∀ w, (Op.equalIn d T a c).run P w = .ok b w) (hr : (Op.eqFields d xs ys fs).run P w = .ok r w) : (Op.eqFields d xs ys (f :: fs)).run P w = .ok (b && r) w := by
  subst hT ho
  unfold Op.eqFields
  rw [if_pos (of_decide_eq_false hn)]
  simp only [Sem.run_bind, h1, h2, he, Result.andThen_ok]
  cases b
  · simp
  · simpa using hr
theorem eqFields_nil (d : Nat) (xs ys : Array Value) (w : World) : (Op.eqFields d xs ys []).run P w = .ok true w := by simp [Op.eqFields]
theorem eqItems_cons (d : Nat) (e : TypeId) (n : Nat) (xs ys : Array Value) (i : Nat) (is : List Nat) {a c : Value} {b r : Bool} {w : World} (h1 : ∀ w, (part e xs (i * n)).run P w = .ok a w) (h2 : ∀ w, (part e ys (i * n)).run P w = .ok c w) (he : ∀ w, (Op.equalIn d e a c).run P w = .ok b w) (hr : (Op.eqItems d e n xs ys is).run P w = .ok r w) : (Op.eqItems d e n xs ys (i :: is)).run P w = .ok (b && r) w := by
  unfold Op.eqItems
  simp only [Sem.run_bind, h1, h2, he, Result.andThen_ok]
  cases b
  · simp
  · simpa using hr
theorem eqItems_nil (d : Nat) (e : TypeId) (n : Nat) (xs ys : Array Value) (w : World) : (Op.eqItems d e n xs ys []).run P w = .ok true w := by simp [Op.eqItems]
end
theorem part64 {cs : Array Value} {off : Nat} {v : Value} (h : cs[off]? = some v) (w : World) : (part 2 cs off).run Tryz.prog w = .ok v w := by
  unfold part
  go_simp
theorem partKind {cs : Array Value} {off : Nat} {v : Value} (h : cs[off]? = some v) (w : World) : (part 22 cs off).run Tryz.prog w = .ok v w := by
  unfold part
  go_simp
theorem partStr {cs : Array Value} {off : Nat} {v : Value} (h : cs[off]? = some v) (w : World) : (part 9 cs off).run Tryz.prog w = .ok v w := by
  unfold part
  go_simp
theorem partHash0 (cs : Array Value) (off : Nat) (w : World) : (part 24 cs off).run Tryz.prog w = .ok (.agg (cs.extract off (off + 32))) w := by
  unfold part
  go_simp
theorem partTerms (cs : Array Value) (off : Nat) (w : World) : (part 27 cs off).run Tryz.prog w = .ok (.agg (cs.extract off (off + 101))) w := by
  unfold part
  go_simp
theorem partKeys (cs : Array Value) (off : Nat) (w : World) : (part 25 cs off).run Tryz.prog w = .ok (.agg (cs.extract off (off + 64))) w := by
  unfold part
  go_simp
theorem extract_of {cs vs : Array Value} {o n : Nat} (hn : vs.size = n) (hc : o + n ≤ cs.size) (h : ∀ j, j < n → cs[o + j]? = vs[j]?) : cs.extract o (o + n) = vs := by
  apply Array.ext_getElem?
  intro j
  rw [Array.getElem?_extract]
  by_cases hj : j < n
  · rw [if_pos (by omega)]
    exact h j hj
  · rw [if_neg (by omega), Array.getElem?_eq_none (by omega)]
theorem partHash {cs : Array Value} {off : Nat} {h : List UInt8} (hl : h.length = 32) (hs : off + 32 ≤ cs.size) (hg : ∀ i, i < 32 → cs[off + i]? = (hC h)[i]?) (w : World) : (part 24 cs off).run Tryz.prog w = .ok (.agg (hC h)) w := by
  rw [partHash0, extract_of (hC_size _ (Nat.le_of_eq hl)) hs hg]
noncomputable def fld (T : TypeId) (i : Nat) : Field := (Tryz.prog.fieldsOf T).toList.getD i default
theorem flds_said : (Tryz.prog.fieldsOf 29).toList = [fld 29 0, fld 29 1, fld 29 2, fld 29 3, fld 29 4, fld 29 5, fld 29 6, fld 29 7, fld 29 8, fld 29 9, fld 29 10, fld 29 11, fld 29 12, fld 29 13, fld 29 14, fld 29 15] := by kernel_rfl
theorem flds_terms : (Tryz.prog.fieldsOf 27).toList = [fld 27 0, fld 27 1, fld 27 2, fld 27 3, fld 27 4, fld 27 5, fld 27 6] := by kernel_rfl
theorem eqHash (d : Nat) (a b : List UInt8) (ha : a.length = 32) (hb : b.length = 32) (w : World) : (Op.equalIn (d + 2) 24 (.agg (hC a)) (.agg (hC b))).run Tryz.prog w = .ok (a == b) w := by
  rw [hC_cells a ha, hC_cells b hb, run_equalIn_bytes w d 24 5 32 Tryz.underlying24 Tryz.underlying5 (fun w => by kernel_rfl) a b ha hb]
/-- An opening's terms in what is said. -/
def termsC (s : Said) : Array Value := (saidC s).extract 1 102
theorem termsC_size {s : Said} (h : s.wf) : (termsC s).size = 101 := by
  unfold termsC
  rw [Array.size_extract, saidC_size h]
  rfl
theorem termsC_get {s : Said} (h : s.wf) (i : Nat) (hi : i < 101) : (termsC s)[i]? = (saidC s)[1 + i]? := by
  unfold termsC
  rw [Array.getElem?_extract, if_pos (by rw [saidC_size h]; omega)]
theorem termsC_n {s : Said} (h : s.wf) (j : Nat) (hj : j < 5) : (termsC s)[32 + j]? = some (.int .i64 (s.n j)) := by
  rw [termsC_get h _ (by omega)]
  have := saidC_n h j (by omega)
  rcases j with _ | _ | _ | _ | _ | j
  all_goals first | exact this | omega
theorem termsC_fund {s : Said} (h : s.wf) (i : Nat) (hi : i < 32) : (termsC s)[0 + i]? = (hC s.fund)[i]? := by
  rw [termsC_get h _ (by omega), Nat.zero_add]
  exact saidC_h h 0 (by decide) i hi
theorem termsC_key {s : Said} (h : s.wf) (k : Nat) (hk : k < 2) (i : Nat) (hi : i < 32) : (termsC s)[37 + k * 32 + i]? = (hC (s.h (1 + k)))[i]? := by
  rw [termsC_get h _ (by omega)]
  have := saidC_h h (1 + k) (by omega) i hi
  rcases k with _ | _ | k
  · rw [← this]; congr 1; show 1 + (37 + 0 * 32 + i) = 38 + i; omega
  · rw [← this]; congr 1; show 1 + (37 + 1 * 32 + i) = 70 + i; omega
  · omega
theorem nm {T : TypeId} {i : Nat} (h : decide ((fld T i).name = "_") = false) : decide ((fld T i).name = "_") = false := h
set_option maxRecDepth 100000 in
theorem eqKeys (d : Nat) {s s' : Said} (h : s.wf) (h' : s'.wf) (w : World) : (Op.equalIn (d + 3) 25 (.agg ((termsC s).extract 37 (37 + 64))) (.agg ((termsC s').extract 37 (37 + 64)))).run Tryz.prog w = .ok ((s.key0 == s'.key0) && ((s.key1 == s'.key1) && true)) w := by
  obtain ⟨i, hi, hic⟩ := Option.map_eq_some_iff.1 infoH
  rw [run_equalIn_array w (d + 2) (e := 24) (n := 2) (i := i) _ _ Tryz.underlying25 hi, show Tryz.prog.cellsOf 24 = 32 by kernel_rfl, show List.range 2 = [0, 1] from rfl]
  have hp : ∀ (s : Said), s.wf → ∀ k, k < 2 → ∀ w, (part 24 ((termsC s).extract 37 (37 + 64)) (k * 32)).run Tryz.prog w = .ok (.agg (hC (s.h (1 + k)))) w := fun s h k hk w =>
    partHash (h (1 + k) (by omega)) (by rw [Array.size_extract, termsC_size h]; omega) (fun i hi => by
      rw [Array.getElem?_extract, if_pos (by rw [termsC_size h]; omega), ← termsC_key h k hk i hi]
      congr 1
      omega) w
  exact eqItems_cons (d + 2) _ 32 _ _ 0 [1] (hp s h 0 (by decide)) (hp s' h' 0 (by decide)) (eqHash d _ _ (h 1 (by decide)) (h' 1 (by decide)))
    (eqItems_cons (d + 2) _ 32 _ _ 1 [] (hp s h 1 (by decide)) (hp s' h' 1 (by decide)) (eqHash d _ _ (h 2 (by decide)) (h' 2 (by decide))) (eqItems_nil _ _ _ _ _ _))
def tEq (s s' : Said) : Bool := (s.fund == s'.fund) && ((s.tix == s'.tix) && ((s.cap == s'.cap) && ((s.dust == s'.dust) && ((s.fee == s'.fee) && ((s.delay == s'.delay) && (((s.key0 == s'.key0) && ((s.key1 == s'.key1) && true)) && true))))))
theorem eq64 (d : Nat) (a b : Int) (w : World) : (Op.equalIn (d + 1) 2 (.int .i64 a) (.int .i64 b)).run Tryz.prog w = .ok (a == b) w := run_equalIn_int w _ _ _ _ _ _ Tryz.underlying2
set_option maxRecDepth 100000 in
theorem eqTerms (d : Nat) {s s' : Said} (h : s.wf) (h' : s'.wf) (w : World) : (Op.equalIn (d + 4) 27 (.agg (termsC s)) (.agg (termsC s'))).run Tryz.prog w = .ok (tEq s s') w := by
  rw [run_equalIn_struct w (d + 3) _ _ _ (by kernel_rfl) (by kernel_rfl), flds_terms]
  unfold tEq
  have hf : ∀ (s : Said), s.wf → ∀ w, (part 24 (termsC s) 0).run Tryz.prog w = .ok (.agg (hC s.fund)) w := fun s h w =>
    partHash (h 0 (by decide)) (by rw [termsC_size h]; decide) (termsC_fund h) w
  refine eqFields_cons _ _ _ _ _ (T := 24) (off := 0) (by kernel_rfl) (by kernel_rfl) (by kernel_rfl) (hf s h) (hf s' h') (eqHash (d + 1) _ _ (h 0 (by decide)) (h' 0 (by decide))) ?_
  refine eqFields_cons _ _ _ _ _ (T := 2) (off := 32) (by kernel_rfl) (by kernel_rfl) (by kernel_rfl) (part64 (termsC_n h 0 (by decide))) (part64 (termsC_n h' 0 (by decide))) (eq64 _ _ _) ?_
  refine eqFields_cons _ _ _ _ _ (T := 2) (off := 33) (by kernel_rfl) (by kernel_rfl) (by kernel_rfl) (part64 (termsC_n h 1 (by decide))) (part64 (termsC_n h' 1 (by decide))) (eq64 _ _ _) ?_
  refine eqFields_cons _ _ _ _ _ (T := 2) (off := 34) (by kernel_rfl) (by kernel_rfl) (by kernel_rfl) (part64 (termsC_n h 2 (by decide))) (part64 (termsC_n h' 2 (by decide))) (eq64 _ _ _) ?_
  refine eqFields_cons _ _ _ _ _ (T := 2) (off := 35) (by kernel_rfl) (by kernel_rfl) (by kernel_rfl) (part64 (termsC_n h 3 (by decide))) (part64 (termsC_n h' 3 (by decide))) (eq64 _ _ _) ?_
  refine eqFields_cons _ _ _ _ _ (T := 2) (off := 36) (by kernel_rfl) (by kernel_rfl) (by kernel_rfl) (part64 (termsC_n h 4 (by decide))) (part64 (termsC_n h' 4 (by decide))) (eq64 _ _ _) ?_
  refine eqFields_cons _ _ _ _ _ (T := 25) (off := 37) (by kernel_rfl) (by kernel_rfl) (by kernel_rfl) (partKeys _ _) (partKeys _ _) (eqKeys d h h') ?_
  exact eqFields_nil _ _ _ _
theorem partTerms1 (s : Said) (w : World) : (part 27 (saidC s) 1).run Tryz.prog w = .ok (.agg (termsC s)) w := partTerms _ 1 w
theorem partHs {s : Said} (h : s.wf) (j : Nat) (hj : j < 9) (w : World) : (part 24 (saidC s) (offH j)).run Tryz.prog w = .ok (.agg (hC (s.h j))) w :=
  partHash (h j hj) (by rw [saidC_size h]; exact offH_le j hj) (saidC_h h j hj) w
def sEq (s s' : Said) : Bool := (s.kind == s'.kind) && (tEq s s' && ((s.reserve == s'.reserve) && ((s.amount == s'.amount) && ((s.point == s'.point) && ((s.next == s'.next) && ((s.key == s'.key) && ((s.hash == s'.hash) && ((s.tag == s'.tag) && ((s.secret == s'.secret) && ((s.id == s'.id) && ((s.number == s'.number) && ((s.index == s'.index) && ((s.expiry == s'.expiry) && ((s.code == s'.code) && (((⟨s.route.toArray⟩ : ByteArray).toList == (⟨s'.route.toArray⟩ : ByteArray).toList) && true)))))))))))))))
theorem sEq_iff (s s' : Said) : sEq s s' = decide (s = s') := by
  have e : ∀ l : List UInt8, (⟨l.toArray⟩ : ByteArray).toList = l := fun l => by rw [ByteArray.toList_eq]
  unfold sEq tEq
  rw [e, e, Bool.eq_iff_iff]
  obtain ⟨a1, a2, a3, a4, a5, a6, a7, a8, a9, a10, a11, a12, a13, a14, a15, a16, a17, a18, a19, a20, a21, a22, a23⟩ := s
  obtain ⟨b1, b2, b3, b4, b5, b6, b7, b8, b9, b10, b11, b12, b13, b14, b15, b16, b17, b18, b19, b20, b21, b22, b23⟩ := s'
  simp only [Bool.and_eq_true, beq_iff_eq, and_true, decide_eq_true_eq, Said.mk.injEq]
  constructor
  · rintro ⟨h1, ⟨h2, h3, h4, h5, h6, h7, h8, h9⟩, h10, h11, h12, h13, h14, h15, h16, h17, h18, h19, h20, h21, h22, h23⟩
    exact ⟨h1, h2, h3, h4, h5, h6, h7, h8, h9, h10, h11, h12, h13, h14, h15, h16, h17, h18, h19, h20, h21, h22, h23⟩
  · rintro ⟨h1, h2, h3, h4, h5, h6, h7, h8, h9, h10, h11, h12, h13, h14, h15, h16, h17, h18, h19, h20, h21, h22, h23⟩
    exact ⟨h1, ⟨h2, h3, h4, h5, h6, h7, h8, h9⟩, h10, h11, h12, h13, h14, h15, h16, h17, h18, h19, h20, h21, h22, h23⟩
set_option maxRecDepth 100000 in
theorem eqSaid (d : Nat) {s s' : Said} (h : s.wf) (h' : s'.wf) (w : World) : (Op.equalIn (d + 5) 29 (.agg (saidC s)) (.agg (saidC s'))).run Tryz.prog w = .ok (decide (s = s')) w := by
  rw [run_equalIn_struct w (d + 4) _ _ _ (by kernel_rfl) (by kernel_rfl), flds_said, ← sEq_iff]
  unfold sEq
  refine eqFields_cons _ _ _ _ _ (T := 22) (off := 0) (by kernel_rfl) (by kernel_rfl) (by kernel_rfl) (partKind (saidC_kind h)) (partKind (saidC_kind h')) (fun w => run_equalIn_int w _ _ _ _ _ _ Tryz.underlying22) ?_
  refine eqFields_cons _ _ _ _ _ (T := 27) (off := 1) (by kernel_rfl) (by kernel_rfl) (by kernel_rfl) (partTerms1 s) (partTerms1 s') (eqTerms d h h') ?_
  refine eqFields_cons _ _ _ _ _ (T := 2) (off := 102) (by kernel_rfl) (by kernel_rfl) (by kernel_rfl) (part64 (saidC_n h 5 (by decide))) (part64 (saidC_n h' 5 (by decide))) (eq64 _ _ _) ?_
  refine eqFields_cons _ _ _ _ _ (T := 2) (off := 103) (by kernel_rfl) (by kernel_rfl) (by kernel_rfl) (part64 (saidC_n h 6 (by decide))) (part64 (saidC_n h' 6 (by decide))) (eq64 _ _ _) ?_
  refine eqFields_cons _ _ _ _ _ (T := 24) (off := 104) (by kernel_rfl) (by kernel_rfl) (by kernel_rfl) (partHs h 3 (by decide)) (partHs h' 3 (by decide)) (eqHash (d + 2) _ _ (h 3 (by decide)) (h' 3 (by decide))) ?_
  refine eqFields_cons _ _ _ _ _ (T := 24) (off := 136) (by kernel_rfl) (by kernel_rfl) (by kernel_rfl) (partHs h 4 (by decide)) (partHs h' 4 (by decide)) (eqHash (d + 2) _ _ (h 4 (by decide)) (h' 4 (by decide))) ?_
  refine eqFields_cons _ _ _ _ _ (T := 24) (off := 168) (by kernel_rfl) (by kernel_rfl) (by kernel_rfl) (partHs h 5 (by decide)) (partHs h' 5 (by decide)) (eqHash (d + 2) _ _ (h 5 (by decide)) (h' 5 (by decide))) ?_
  refine eqFields_cons _ _ _ _ _ (T := 24) (off := 200) (by kernel_rfl) (by kernel_rfl) (by kernel_rfl) (partHs h 6 (by decide)) (partHs h' 6 (by decide)) (eqHash (d + 2) _ _ (h 6 (by decide)) (h' 6 (by decide))) ?_
  refine eqFields_cons _ _ _ _ _ (T := 24) (off := 232) (by kernel_rfl) (by kernel_rfl) (by kernel_rfl) (partHs h 7 (by decide)) (partHs h' 7 (by decide)) (eqHash (d + 2) _ _ (h 7 (by decide)) (h' 7 (by decide))) ?_
  refine eqFields_cons _ _ _ _ _ (T := 24) (off := 264) (by kernel_rfl) (by kernel_rfl) (by kernel_rfl) (partHs h 8 (by decide)) (partHs h' 8 (by decide)) (eqHash (d + 2) _ _ (h 8 (by decide)) (h' 8 (by decide))) ?_
  refine eqFields_cons _ _ _ _ _ (T := 2) (off := 296) (by kernel_rfl) (by kernel_rfl) (by kernel_rfl) (part64 (saidC_n h 7 (by decide))) (part64 (saidC_n h' 7 (by decide))) (eq64 _ _ _) ?_
  refine eqFields_cons _ _ _ _ _ (T := 2) (off := 297) (by kernel_rfl) (by kernel_rfl) (by kernel_rfl) (part64 (saidC_n h 8 (by decide))) (part64 (saidC_n h' 8 (by decide))) (eq64 _ _ _) ?_
  refine eqFields_cons _ _ _ _ _ (T := 2) (off := 298) (by kernel_rfl) (by kernel_rfl) (by kernel_rfl) (part64 (saidC_n h 9 (by decide))) (part64 (saidC_n h' 9 (by decide))) (eq64 _ _ _) ?_
  refine eqFields_cons _ _ _ _ _ (T := 2) (off := 299) (by kernel_rfl) (by kernel_rfl) (by kernel_rfl) (part64 (saidC_n h 10 (by decide))) (part64 (saidC_n h' 10 (by decide))) (eq64 _ _ _) ?_
  refine eqFields_cons _ _ _ _ _ (T := 2) (off := 300) (by kernel_rfl) (by kernel_rfl) (by kernel_rfl) (part64 (saidC_n h 11 (by decide))) (part64 (saidC_n h' 11 (by decide))) (eq64 _ _ _) ?_
  refine eqFields_cons _ _ _ _ _ (T := 9) (off := 301) (by kernel_rfl) (by kernel_rfl) (by kernel_rfl) (partStr (saidC_route h)) (partStr (saidC_route h')) (fun w => run_equalIn_string w _ _ _ _ Tryz.underlying9) ?_
  exact eqFields_nil _ _ _ _
theorem eqlSaid {s s' : Said} (h : s.wf) (h' : s'.wf) (w : World) : (binOp .eql 29 (.agg (saidC s)) (.agg (saidC s'))).run Tryz.prog w = .ok (.bool (decide (s = s'))) w := by
  rw [run_eql_struct, eqSaid 9995 h h']
  rfl
theorem neqSaid {s s' : Said} (h : s.wf) (h' : s'.wf) (w : World) : (binOp .neq 29 (.agg (saidC s)) (.agg (saidC s'))).run Tryz.prog w = .ok (.bool (!decide (s = s'))) w := by
  rw [run_neq_struct, eqSaid 9995 h h']
  rfl
end Go.Proofs.YtcajhdmppfiaeaaGreat
