/- Walks, route: the end of the document's Text. -/
import Derived.Test.YtloiaaolnfimgaaGreatRk24
set_option linter.unusedVariables false
set_option linter.unusedSimpArgs false
namespace Go.Proofs.YtloiaaolnfimgaaGreat
open Go.RowKit Rt
theorem eqg25 {T : TypeId} {x y : Operand} {vx vy : Value} {P : Program} {W : World} : (eqGuard .quo T x y vx vy).run P W = .ok () W := rfl
theorem quo25 {x : Nat} {W : World} (hx : x < 256) : (binOp .quo 5 (.int .u8 (x : Int)) (.int .u8 16)).run Tryz.prog W = .ok (.int .u8 ((x / 16 : Nat) : Int)) W := by
  have e : ((x : Int).tdiv 16) = ((x / 16 : Nat) : Int) := by rw [Int.tdiv_eq_ediv_of_nonneg (by omega)]; rfl
  go_simp
  simp [IntKind.wrap, IntKind.bits, IntKind.signed]
  omega
theorem rem25 {x : Nat} {W : World} : (binOp .rem 5 (.int .u8 (x : Int)) (.int .u8 16)).run Tryz.prog W = .ok (.int .u8 ((x % 16 : Nat) : Int)) W := by
  have e : ((x : Int).tmod 16) = ((x % 16 : Nat) : Int) := by rw [Int.tmod_eq_emod_of_nonneg (by omega)]; rfl
  go_simp
theorem ld8_25 {b o : Nat} {x : Int} {W : World} (hc : W.cell? ⟨b, o, none⟩ = some (.int .u8 x)) : (Instr.loadAt 5 (.pointer (some ⟨b, o, none⟩))).run Tryz.prog W = .ok (.int .u8 x) W := by
  go_simp
theorem idx25 {b n c i : Nat} (W : World) (h : i < n) : (Instr.indexAt 60 (.slice (some ⟨b, 0, none⟩) n c) (.int .i64 (i : Int))).run Tryz.prog W = .ok (.pointer (some ⟨b, i, none⟩)) W := by
  have h1 : (i : Int) < (n : Int) := by omega
  have h2 : (0 : Int) ≤ (i : Int) := by omega
  go_simp
theorem add25 {q : Nat} {W : World} (h : q < 16) : (binOp .add 5 (.int .u8 (q : Int)) (.int .u8 1)).run Tryz.prog W = .ok (.int .u8 ((q + 1 : Nat) : Int)) W := by
  go_simp
  simp [IntKind.wrap, IntKind.bits, IntKind.signed]
  omega
theorem dig25 {q : Nat} {W : World} (h : q < 16) : (Instr.slice 9 (.string ⟨#[48, 49, 50, 51, 52, 53, 54, 55, 56, 57, 97, 98, 99, 100, 101, 102]⟩) (some (.int .u8 (q : Int))) (some (.int .u8 ((q + 1 : Nat) : Int))) none).run Tryz.prog W = .ok (.string ⟨[signB q].toArray⟩) W := by
  have h16 : q = 0 ∨ q = 1 ∨ q = 2 ∨ q = 3 ∨ q = 4 ∨ q = 5 ∨ q = 6 ∨ q = 7 ∨ q = 8 ∨ q = 9 ∨ q = 10 ∨ q = 11 ∨ q = 12 ∨ q = 13 ∨ q = 14 ∨ q = 15 := by omega
  rcases h16 with rfl | rfl | rfl | rfl | rfl | rfl | rfl | rfl | rfl | rfl | rfl | rfl | rfl | rfl | rfl | rfl
  all_goals (refine Eq.trans ?_ (rfl : Result.ok _ W = _); kernel_rfl)
set_option maxRecDepth 100000 in
set_option maxHeartbeats 4000000 in
theorem refText_tail (cd : Code) (hcd : ((Tryz.prog.funcs[(17 : Nat)]?.bind (·.body)).bind (fromR 6)) = some cd) (w W : World) (gA n c : Nat) (S : List UInt8) (hn : S.length = n) (hk : n ≤ 1000) (hrd : Rd W (some ⟨gA, 0, none⟩) S) (hb : Below w.heap.size w W)
    (Q : Exit → Act → World → Prop) (hQ : ∀ (a' : Act) (W' : World), a'.defers = [] → a'.tmps.getD 2 undef = .string ⟨(markL ++ textOf S).toArray⟩ → a'.tmps.getD 3 undef = .int .i64 0 → Below w.heap.size w W' → Q .ret a' W')
    (u0 u1 u2 u3 u5 u6 u7 u8 u9 u10 u11 u12 u13 u14 u15 u16 u17 u18 u19 u20 u21 u22 u23 u24 u25 u26 u27 u28 u29 u30 u31 u32 u33 u34 u35 u36 u37 u38 u39 u40 u41 u42 u43 u44 u45 u46 u47 u48 u49 u50 u51 u52 u53 u54 u55 u56 u57 u58 u59 u60 u61 u62 u63 u64 : Value) :
    cd.wp Tryz.prog Q { tmps := #[u0, u1, u2, u3, .slice (some ⟨gA, 0, none⟩) n c, u5, u6, u7, u8, u9, u10, u11, u12, u13, u14, u15, u16, u17, u18, u19, u20, u21, u22, u23, u24, u25, u26, u27, u28, u29, u30, u31, u32, u33, u34, u35, u36, u37, u38, u39, u40, u41, u42, u43, u44, u45, u46, u47, u48, u49, u50, u51, u52, u53, u54, u55, u56, u57, u58, u59, u60, u61, u62, u63, u64], defers := [] } W := by
  conv at hcd => lhs; whnf
  injection hcd with hcd
  subst hcd
  have HN := Lib.hid hn
  have HR := Lib.hid hrd
  have HQ := Lib.hid hQ
  have HB := Lib.hid hb
  clear hn hrd hQ hb
  go_wp2_with fail
  go_loopw [5, 6, 7] (fun sv t _ wr => ∃ k : Nat, k ≤ n ∧ t = .int .i64 (k : Int) ∧ sv = .string ⟨(markL ++ textOf (S.take k)).toArray⟩ ∧ Later W wr) (fun _ t _ _ => n - (intOf t).toNat)
  case atStart => exact ⟨0, by omega, rfl, rfl, Later.refl _⟩
  case round =>
    obtain ⟨k, hk2, rfl, rfl, hL⟩ := hrel
    by_cases hlt : k < n
    · have hd : decide ((k : Int) < (n : Int)) = true := decide_eq_true (by omega)
      have hd' : decide (k < n) = true := decide_eq_true hlt
      have hkl : k < S.length := by rw [HN.out]; exact hlt
      have hcell : ∀ W2, Later wr W2 → W2.cell? ⟨gA, k, none⟩ = some (.int .u8 (S[k].toNat : Int)) := fun W2 h2 => by
        have h3 := HR.out.later (hL.step h2)
        obtain ⟨b, o, e, hc⟩ := h3.at_ hkl
        injection e with e; injection e with e1 e2; subst e1 e2
        rw [Nat.zero_add] at hc
        exact hc
      have hnx : textOf (S.take (k + 1)) = textOf (S.take k) ++ [signB (S[k].toNat / 16), signB (S[k].toNat % 16)] := by rw [List.take_succ_eq_append_getElem hkl, textOf_snoc]; rfl
      obtain ⟨x, hx⟩ : ∃ x, S[k].toNat = x := ⟨_, rfl⟩
      have hx256 : x < 256 := by rw [← hx]; exact S[k].toNat_lt
      rw [hx] at hnx hcell
      have hal : (markL ++ textOf (S.take k)).length ≤ 3000 := by rw [List.length_append, textOf_len, List.length_take]; have := HN.out; have : markL.length = 5 := rfl; omega
      have HNX : Hid (markL ++ textOf (S.take (k + 1)) = markL ++ textOf (S.take k) ++ [signB (x / 16)] ++ [signB (x % 16)]) := Lib.hid (by rw [hnx]; simp)
      clear hnx hx
      generalize markL ++ textOf (S.take k) = acc at *
      obtain ⟨q1, hq1⟩ : ∃ q, x / 16 = q := ⟨_, rfl⟩
      obtain ⟨q2, hq2⟩ : ∃ q, x % 16 = q := ⟨_, rfl⟩
      have h1q : q1 < 16 := by omega
      have h2q : q2 < 16 := by omega
      have hquo := fun (W2 : World) => quo25 (x := x) (W := W2) hx256
      have hrem := fun (W2 : World) => rem25 (x := x) (W := W2)
      rw [hq1] at hquo HNX
      rw [hq2] at hrem HNX
      clear hq1 hq2
      have ha1 := fun W2 => run_str_add acc [signB q1] (by simp; omega) W2
      have ha2 := fun W2 => run_str_add (acc ++ [signB q1]) [signB q2] (by simp; omega) W2
      go_upto_region 11 with fail
      refine wp_region_list [Pr.eq (.string ⟨acc.toArray⟩), Pr.eq (.string ⟨#[48, 49, 50, 51, 52, 53, 54, 55, 56, 57, 97, 98, 99, 100, 101, 102]⟩), Pr.eq (.slice (some ⟨gA, 0, none⟩) n c), Pr.eq (.int .i64 (k : Int)), Pr.eq (.pointer (some ⟨gA, k, none⟩)), Pr.eq (.int .u8 (x : Int)), Pr.eq (.int .u8 (q1 : Int)), Pr.eq (.slice (some ⟨gA, 0, none⟩) n c), Pr.eq (.int .i64 (k : Int)), Pr.eq (.pointer (some ⟨gA, k, none⟩)), Pr.eq (.int .u8 (x : Int)), Pr.eq (.int .u8 (q1 : Int)), Pr.eq (.int .u8 ((q1 + 1 : Nat) : Int)), Pr.eq (.string ⟨[signB q1].toArray⟩), Pr.eq (.string ⟨(acc ++ [signB q1]).toArray⟩), Pr.eq (.string ⟨#[48, 49, 50, 51, 52, 53, 54, 55, 56, 57, 97, 98, 99, 100, 101, 102]⟩), Pr.eq (.slice (some ⟨gA, 0, none⟩) n c), Pr.eq (.int .i64 (k : Int)), Pr.eq (.pointer (some ⟨gA, k, none⟩)), Pr.eq (.int .u8 (x : Int)), Pr.eq (.int .u8 (q2 : Int)), Pr.eq (.slice (some ⟨gA, 0, none⟩) n c), Pr.eq (.int .i64 (k : Int)), Pr.eq (.pointer (some ⟨gA, k, none⟩)), Pr.eq (.int .u8 (x : Int)), Pr.eq (.int .u8 (q2 : Int)), Pr.eq (.int .u8 ((q2 + 1 : Nat) : Int)), Pr.eq (.string ⟨[signB q2].toArray⟩), Pr.eq (.string ⟨(acc ++ [signB q1] ++ [signB q2]).toArray⟩), Pr.eq (.string ⟨(acc ++ [signB q1] ++ [signB q2]).toArray⟩)] (by kernel_rfl) (by kernel_rfl) (by kernel_rfl) (by kernel_rfl) ⟨?_, ?_, ?_, ?_, ?_, ?_, ?_, ?_, ?_, ?_, ?_, ?_, ?_, ?_, ?_, ?_, ?_, ?_, ?_, ?_, ?_, ?_, ?_, ?_, ?_, ?_, ?_, ?_, ?_, ?_, trivial⟩ ?_
      · exact fun ac W hL he => stepOk_want rfl (op_move rfl (he.keep (.tmp 5) (by kernel_rfl)))
      · exact fun ac W hL he => stepOk_want rfl (op_move rfl (he.keep (.tmp 7) (by kernel_rfl)))
      · exact fun ac W hL he => stepOk_want rfl (op_move rfl (he.keep (.tmp 4) (by kernel_rfl)))
      · exact fun ac W hL he => stepOk_want rfl (op_move rfl (he.keep (.tmp 6) (by kernel_rfl)))
      · exact fun ac W hL he => stepOk_want rfl (op_idx rfl (he.get 2 37 (by kernel_rfl) rfl) (he.get 3 38 (by kernel_rfl) rfl) (idx25 W hlt) rfl)
      · exact fun ac W hL he => stepOk_want rfl (op_load rfl (he.get 4 39 (by kernel_rfl) rfl) (ld8_25 (hcell W hL)) rfl)
      · exact fun ac W hL he => stepOk_want rfl (op_binOp rfl (he.get 5 40 (by kernel_rfl) rfl) rfl (eqg_any rfl) (hquo W) rfl)
      · exact fun ac W hL he => stepOk_want rfl (op_move rfl (he.keep (.tmp 4) (by kernel_rfl)))
      · exact fun ac W hL he => stepOk_want rfl (op_move rfl (he.keep (.tmp 6) (by kernel_rfl)))
      · exact fun ac W hL he => stepOk_want rfl (op_idx rfl (he.get 7 42 (by kernel_rfl) rfl) (he.get 8 43 (by kernel_rfl) rfl) (idx25 W hlt) rfl)
      · exact fun ac W hL he => stepOk_want rfl (op_load rfl (he.get 9 44 (by kernel_rfl) rfl) (ld8_25 (hcell W hL)) rfl)
      · exact fun ac W hL he => stepOk_want rfl (op_binOp rfl (he.get 10 45 (by kernel_rfl) rfl) rfl (eqg_any rfl) (hquo W) rfl)
      · exact fun ac W hL he => stepOk_want rfl (op_binOp rfl (he.get 11 46 (by kernel_rfl) rfl) rfl (eqg_any rfl) (add25 h1q) rfl)
      · exact fun ac W hL he => stepOk_want rfl (op_slice (W' := W) rfl (he.get 1 36 (by kernel_rfl) rfl) (congrArg some (he.get 6 41 (by kernel_rfl) rfl)) (congrArg some (he.get 12 47 (by kernel_rfl) rfl)) rfl (dig25 h1q) rfl)
      · exact fun ac W hL he => stepOk_want rfl (op_binOp rfl (he.get 0 35 (by kernel_rfl) rfl) (he.get 13 48 (by kernel_rfl) rfl) (eqg_any rfl) (ha1 W) rfl)
      · exact fun ac W hL he => stepOk_want rfl (op_move rfl (he.keep (.tmp 7) (by kernel_rfl)))
      · exact fun ac W hL he => stepOk_want rfl (op_move rfl (he.keep (.tmp 4) (by kernel_rfl)))
      · exact fun ac W hL he => stepOk_want rfl (op_move rfl (he.keep (.tmp 6) (by kernel_rfl)))
      · exact fun ac W hL he => stepOk_want rfl (op_idx rfl (he.get 16 51 (by kernel_rfl) rfl) (he.get 17 52 (by kernel_rfl) rfl) (idx25 W hlt) rfl)
      · exact fun ac W hL he => stepOk_want rfl (op_load rfl (he.get 18 53 (by kernel_rfl) rfl) (ld8_25 (hcell W hL)) rfl)
      · exact fun ac W hL he => stepOk_want rfl (op_binOp rfl (he.get 19 54 (by kernel_rfl) rfl) rfl (eqg_any rfl) (hrem W) rfl)
      · exact fun ac W hL he => stepOk_want rfl (op_move rfl (he.keep (.tmp 4) (by kernel_rfl)))
      · exact fun ac W hL he => stepOk_want rfl (op_move rfl (he.keep (.tmp 6) (by kernel_rfl)))
      · exact fun ac W hL he => stepOk_want rfl (op_idx rfl (he.get 21 56 (by kernel_rfl) rfl) (he.get 22 57 (by kernel_rfl) rfl) (idx25 W hlt) rfl)
      · exact fun ac W hL he => stepOk_want rfl (op_load rfl (he.get 23 58 (by kernel_rfl) rfl) (ld8_25 (hcell W hL)) rfl)
      · exact fun ac W hL he => stepOk_want rfl (op_binOp rfl (he.get 24 59 (by kernel_rfl) rfl) rfl (eqg_any rfl) (hrem W) rfl)
      · exact fun ac W hL he => stepOk_want rfl (op_binOp rfl (he.get 25 60 (by kernel_rfl) rfl) rfl (eqg_any rfl) (add25 h2q) rfl)
      · exact fun ac W hL he => stepOk_want rfl (op_slice (W' := W) rfl (he.get 15 50 (by kernel_rfl) rfl) (congrArg some (he.get 20 55 (by kernel_rfl) rfl)) (congrArg some (he.get 26 61 (by kernel_rfl) rfl)) rfl (dig25 h2q) rfl)
      · exact fun ac W hL he => stepOk_want rfl (op_binOp rfl (he.get 14 49 (by kernel_rfl) rfl) (he.get 27 62 (by kernel_rfl) rfl) (eqg_any rfl) (ha2 W) rfl)
      · exact fun ac W hL he => stepOk_want rfl (op_assign rfl (he.get 28 63 (by kernel_rfl) rfl))
      intro xs2 W2 hL2 hx
      have v29 : xs2 29 = .string ⟨(acc ++ [signB q1] ++ [signB q2]).toArray⟩ := hx 29 (by decide)
      simp only [putL, Nat.reduceAdd, Act.put, List.setIfInBounds_toArray, List.set_cons_succ, List.set_cons_zero]
      rw [v29]
      clear hx v29 ha1 ha2 hquo hrem hcell
      go_wp2_with fail
      go_roundw
      case rel => exact ⟨k + 1, by omega, by go_num, by rw [HNX.out], hL.step hL2⟩
      case measure => simp [intOf]; omega
    · obtain rfl : k = n := by omega
      have hd : decide ((k : Int) < (k : Int)) = false := decide_eq_false (by omega)
      have hd' : decide (k < k) = false := decide_eq_false (by omega)
      rw [List.take_of_length_le (by rw [HN.out]; exact Nat.le_refl _)]
      go_wp2_with fail
      exact HQ.out _ _ rfl rfl rfl (HB.out.trans (hL.below.mono HB.out.size))
end Go.Proofs.YtloiaaolnfimgaaGreat
