/- Walks: the iterator over the words of a block. -/
import Derived.Test.YtfconncnccgenaaShaW3
set_option linter.unusedVariables false
set_option linter.unusedSimpArgs false
namespace Go.Proofs.Ytfconncnccgenaa
open Go.RowKit Go.Shelf
attribute [local go_sem] Oper.semAt_some
theorem rots_s0 (x : BitVec 32) : rots x 3 [7, 18] = Sha.s0 x := by
  simp only [rots, List.foldl_cons, List.foldl_nil, Sha.s0]
  rw [BitVec.xor_comm (x >>> 3), BitVec.xor_assoc, BitVec.xor_comm (x >>> 3), ← BitVec.xor_assoc]
theorem rots_s1 (x : BitVec 32) : rots x 10 [17, 19] = Sha.s1 x := by
  simp only [rots, List.foldl_cons, List.foldl_nil, Sha.s1]
  rw [BitVec.xor_comm (x >>> 10), BitVec.xor_assoc, BitVec.xor_comm (x >>> 10), ← BitVec.xor_assoc]
theorem shr32 (x : BitVec 32) : x >>> 32 = 0#32 := by
  apply BitVec.eq_of_toNat_eq
  rw [BitVec.toNat_ushiftRight, Nat.shiftRight_eq_div_pow, Nat.div_eq_of_lt x.isLt]
  rfl
theorem rots_S0 (x : BitVec 32) : rots x 32 [2, 13, 22] = Sha.S0 x := by
  simp [rots, Sha.S0, shr32]
theorem rots_S1 (x : BitVec 32) : rots x 32 [6, 11, 25] = Sha.S1 x := by
  simp [rots, Sha.S1, shr32]
def ringC (m : Nat → BitVec 32) (t : Nat) : Array Value := ((List.range 16).map fun j => wordV (Sha.ringAt m t j)).toArray
theorem ringC_get (m : Nat → BitVec 32) (t j : Nat) (h : j < 16) : (ringC m t)[j]? = some (.int .u32 ((Sha.ringAt m t j).toNat : Int)) := by simp [ringC, h]
theorem ringC_set (m : Nat → BitVec 32) (t : Nat) (h : 16 ≤ t) : (ringC m t).setIfInBounds (t % 16) (wordV (Sha.M m t)) = ringC m (t + 1) := by
  apply Array.ext_getElem?
  intro i
  rw [Array.getElem?_setIfInBounds]
  by_cases hi : i < 16
  · rw [ringC_get m (t + 1) i hi]
    by_cases e : t % 16 = i
    · subst e; rw [if_pos rfl, if_pos (by simp [ringC]; omega), Sha.ringAt_new m t h]
    · rw [if_neg e, ringC_get m t i hi, Sha.ringAt_old m t i hi (.inl (fun x => e x.symm))]
  · rw [if_neg (by omega)]
    simp [ringC, hi]
theorem ringC_low (m : Nat → BitVec 32) (t : Nat) (h : t < 16) : ringC m (t + 1) = ringC m t := by
  unfold ringC
  congr 2
  funext j
  simp only [Sha.ringAt, show max (t + 1) 16 = 16 from by omega, show max t 16 = 16 from by omega]
theorem IsFn.later {w w' : World} {b s : Nat} {ps : List Nat} {S : Nat → Prop} (h : IsFn w b s ps S) (hL : Later w w') : IsFn w' b s ps S := by
  obtain ⟨v, bs, bp, bl, h1, h2, h3⟩ := h
  exact ⟨v, bs, bp, bl, h1.later hL, h2.later hL, h3⟩
theorem AllFn.later {w w' : World} {bm bq bn bf : Nat} {S : Nat → Prop} (h : AllFn w bm bq bn bf S) (hL : Later w w') : AllFn w' bm bq bn bf S := ⟨h.sq, h.q.later hL, h.n.later hL, h.f.later hL⟩
def Keeps (S : Nat → Prop) (bm : Nat) (X Y : World) : Prop := (∀ k, S k → Y.heap[k]? = X.heap[k]?) ∧ Y.heap[bm]? = X.heap[bm]?
def wordEnc (m : Nat → BitVec 32) (t : Nat) : Array Value := #[.int .i64 (t : Int), .int .u32 ((Sha.M m t).toNat : Int)]
theorem loadQ {b o : Nat} {v : Option Addr} {W : World} (hc : W.cell? ⟨b, o, none⟩ = some (.pointer v)) : (Instr.loadAt 101 (.pointer (some ⟨b, o, none⟩))).run Try.prog W = .ok (.pointer v) W := by
  go_simp
theorem loadF {b o : Nat} {f : Fn} {x y : Array Value} {W : World} (hc : W.cell? ⟨b, o, none⟩ = some (.func f x y)) : (Instr.loadAt 86 (.pointer (some ⟨b, o, none⟩))).run Try.prog W = .ok (.func f x y) W := by
  go_simp
theorem idxR {b j : Nat} {W : World} (h : j < 16) : (Instr.indexAt 84 (.pointer (some ⟨b, 0, none⟩)) (.int .i64 (j : Int))).run Try.prog W = .ok (.pointer (some ⟨b, j, none⟩)) W := by
  have h1 : (j : Int) < 16 := by omega
  have h2 : (0 : Int) ≤ (j : Int) := by omega
  go_simp
theorem idxM {b j : Nat} {i : Int} {W : World} (hi : i = (j : Int)) (h : j < 16) : (Instr.indexAt 84 (.pointer (some ⟨b, 0, none⟩)) (.int .i64 i)).run Try.prog W = .ok (.pointer (some ⟨b, j, none⟩)) W := by
  rw [hi]; exact idxR h
theorem rot_s0 (x : BitVec 32) {v : Value} {bs bp bl : Nat} (w : World) (h : IsRot w v 3 [7, 18] bs bp bl) : Calls Try.prog 59 #[wordV x, .pointer (some ⟨bs, 0, none⟩), .pointer (some ⟨bp, 0, none⟩)] w fun e w' => e = .returned (wordV (Sha.s0 x)) ∧ w = w' := by
  rw [← rots_s0]; exact rots_any x v 3 [7, 18] bs bp bl w (by decide) (by decide) (by decide) h
theorem rot_s1 (x : BitVec 32) {v : Value} {bs bp bl : Nat} (w : World) (h : IsRot w v 10 [17, 19] bs bp bl) : Calls Try.prog 59 #[wordV x, .pointer (some ⟨bs, 0, none⟩), .pointer (some ⟨bp, 0, none⟩)] w fun e w' => e = .returned (wordV (Sha.s1 x)) ∧ w = w' := by
  rw [← rots_s1]; exact rots_any x v 10 [17, 19] bs bp bl w (by decide) (by decide) (by decide) h
theorem rot_S0 (x : BitVec 32) {v : Value} {bs bp bl : Nat} (w : World) (h : IsRot w v 32 [2, 13, 22] bs bp bl) : Calls Try.prog 59 #[wordV x, .pointer (some ⟨bs, 0, none⟩), .pointer (some ⟨bp, 0, none⟩)] w fun e w' => e = .returned (wordV (Sha.S0 x)) ∧ w = w' := by
  rw [← rots_S0]; exact rots_any x v 32 [2, 13, 22] bs bp bl w (by decide) (by decide) (by decide) h
theorem rot_S1 (x : BitVec 32) {v : Value} {bs bp bl : Nat} (w : World) (h : IsRot w v 32 [6, 11, 25] bs bp bl) : Calls Try.prog 59 #[wordV x, .pointer (some ⟨bs, 0, none⟩), .pointer (some ⟨bp, 0, none⟩)] w fun e w' => e = .returned (wordV (Sha.S1 x)) ∧ w = w' := by
  rw [← rots_S1]; exact rots_any x v 32 [6, 11, 25] bs bp bl w (by decide) (by decide) (by decide) h
theorem remN {x y j : Nat} {W : World} (h0 : 0 < y) (hx : x < 9223372036854775808) (hy : y < 9223372036854775808) (hj : x % y = j) : (binOp .rem 3 (.int .i64 (x : Int)) (.int .i64 (y : Int))).run Try.prog W = .ok (.int .i64 (j : Int)) W := by
  subst hj; exact remI h0 hx hy
set_option maxRecDepth 100000 in
set_option maxHeartbeats 4000000 in
theorem all1_seq (m : Nat → BitVec 32) (bm bq bn bf : Nat) (S : Nat → Prop) (hS : ¬ S bm) (w : World) (n1 : Nat) (hn1 : 1 ≤ n1) (hrow : Row w bm 84 (ringC m 0)) (hall : AllFn w bm bq bn bf S) :
    SeqC Fence.wide n1 Try.prog 60 #[.pointer (some ⟨bq, 0, none⟩), .pointer (some ⟨bn, 0, none⟩), .pointer (some ⟨bf, 0, none⟩)] (wordEnc m) (Keeps S bm) (fun xs => xs.length = 64) (fun _ => True) (fun pre t => t = pre.length ∧ t < 64) (fun r => r = bm) w := fun l J Jx W hW hJ hJx hY h0 => by
  have hrw : Row W bm 84 (ringC m 0) := hrow.belowAll hW
  have hal := hall.later hW
  have HY := Lib.hid hY
  have HJ := Lib.hid hJ
  clear hY hJ hJx hrow hW hall
  refine callsIn_of_wp Try.func60 rfl trivial ?_ rfl
  simp only [Try.ntmps60, List.size_toArray, List.length_cons, List.length_nil, Nat.reduceAdd, Nat.reduceSub, Array.replicate_succ, Array.replicate_zero, List.push_toArray, List.append_toArray, List.nil_append, List.cons_append]
  gi_wp2
  refine wpIn_scope_wide ?_
  gi_wp2
  refine wpIn_label ?_
  gi_wp2
  gi_loopw [7] (fun v wr => ∃ (pre : List Nat), v = .int .i64 (pre.length : Int) ∧ pre.length ≤ 64 ∧ Row wr bm 84 (ringC m pre.length) ∧ AllFn wr bm bq bn bf S ∧ J pre wr) (fun v _ => 64 - (intOf v).toNat)
  case atStart => exact ⟨[], rfl, by simp, hrw, hal, h0⟩
  case round =>
    obtain ⟨pre, rfl, hle, hr, ha, hJs⟩ := hrel
    clear hrw hal h0
    obtain ⟨t, ht⟩ : ∃ t, pre.length = t := ⟨_, rfl⟩
    rw [ht] at hle hr
    have HT := Lib.hid ht
    have hpl : ((pre.length : Nat) : Int) = (t : Int) := by rw [ht]
    rw [hpl]
    clear hpl ht
    obtain ⟨hsq, hq, hn, hf⟩ := ha
    have hcq : wr.cell? ⟨bq, 0, none⟩ = some (.pointer (some ⟨bm, 0, none⟩)) := (hq.cell 0).trans rfl
    by_cases hlt : t < 64
    · obtain ⟨j0, hj0⟩ : ∃ j0, t % 16 = j0 := ⟨_, rfl⟩
      have hj0' : (t : Int) % 16 = (j0 : Int) := by omega
      have hj0l : j0 < 16 := by omega
      by_cases hge : 16 ≤ t
      · have hd : decide ((16 : Int) ≤ (t : Int)) = true := by simp; omega
        obtain ⟨j1, hj1⟩ : ∃ j1, (t + 1) % 16 = j1 := ⟨_, rfl⟩
        obtain ⟨j2, hj2⟩ : ∃ j2, (t + 9) % 16 = j2 := ⟨_, rfl⟩
        obtain ⟨j3, hj3⟩ : ∃ j3, (t + 14) % 16 = j3 := ⟨_, rfl⟩
        have g0 := Sha.ringAt_read m t 0 hge (by decide)
        have g1 := Sha.ringAt_read m t 1 hge (by decide)
        have g2 := Sha.ringAt_read m t 9 hge (by decide)
        have g3 := Sha.ringAt_read m t 14 hge (by decide)
        rw [Nat.add_zero, hj0] at g0
        rw [hj1, show t - 16 + 1 = t - 15 from by omega] at g1
        rw [hj2, show t - 16 + 9 = t - 7 from by omega] at g2
        rw [hj3, show t - 16 + 14 = t - 2 from by omega] at g3
        have hc0 := (hr.cell j0).trans (ringC_get m t j0 hj0l)
        have hc1 := (hr.cell j1).trans (ringC_get m t j1 (by omega))
        have hc2 := (hr.cell j2).trans (ringC_get m t j2 (by omega))
        have hc3 := (hr.cell j3).trans (ringC_get m t j3 (by omega))
        rw [g0] at hc0
        rw [g1] at hc1
        rw [g2] at hc2
        rw [g3] at hc3
        have hsum := Sha.ring_sum m t hge
        rw [Nat.add_zero] at hc0
        have hset := ringC_set m t hge
        rw [hj0] at hset
        have hj1l : j1 < 16 := by omega
        have hj2l : j2 < 16 := by omega
        have hj3l : j3 < 16 := by omega
        clear g0 g1 g2 g3
        obtain ⟨x0, hx0⟩ : ∃ x, Sha.M m (t - 16) = x := ⟨_, rfl⟩
        obtain ⟨x1, hx1⟩ : ∃ x, Sha.M m (t - 15) = x := ⟨_, rfl⟩
        obtain ⟨x2, hx2⟩ : ∃ x, Sha.M m (t - 7) = x := ⟨_, rfl⟩
        obtain ⟨x3, hx3⟩ : ∃ x, Sha.M m (t - 2) = x := ⟨_, rfl⟩
        rw [hx0] at hc0 hsum
        rw [hx1] at hc1 hsum
        rw [hx2] at hc2 hsum
        rw [hx3] at hc3 hsum
        have HSUM := Lib.hid hsum
        have HSET := Lib.hid hset
        have hff := hf
        have hnn := hn
        obtain ⟨nv, ns, np, nl, hnr, hrn, hnS⟩ := hn
        obtain ⟨fv, fs, fp, fl, hfr, hrf, hfS⟩ := hf
        have hcn := (hnr.cell 0).trans (rfl : _ = some nv)
        have hcf := (hfr.cell 0).trans (rfl : _ = some fv)
        rw [hrn.val] at hcn
        rw [hrf.val] at hcf
        clear hx0 hx1 hx2 hx3 hsum hset hnS hfS hnr hfr
        have HJ0 := Lib.hid hj0
        have HJ1 := Lib.hid hj1
        have HJ2 := Lib.hid hj2
        have HJ3 := Lib.hid hj3
        clear hj0 hj1 hj2 hj3
        gi_wp2
        refine wpIn_region_last wide_wide [Pr.eq (.pointer (some ⟨bm, 0, none⟩)), Pr.eq (.int .i64 ((t : Int) % 16)), Pr.eq (.pointer (some ⟨bm, 0, none⟩)), Pr.eq (.pointer (some ⟨bm, j0, none⟩)), Pr.eq (.int .u32 ((x0).toNat : Int)), Pr.eq (.func (.func 59) #[] #[.pointer (some ⟨ns, 0, none⟩), .pointer (some ⟨np, 0, none⟩)]), Pr.eq (.pointer (some ⟨bm, 0, none⟩)), Pr.eq (.int .i64 (t : Int)), Pr.eq (.int .i64 ((t + 1 : Nat) : Int)), Pr.eq (.int .i64 (j1 : Int)), Pr.eq (.pointer (some ⟨bm, 0, none⟩)), Pr.eq (.pointer (some ⟨bm, j1, none⟩)), Pr.eq (.int .u32 ((x1).toNat : Int)), Pr.eq (.int .u32 ((Sha.s0 x1).toNat : Int)), Pr.eq (.pointer (some ⟨bm, 0, none⟩)), Pr.eq (.int .i64 (t : Int)), Pr.eq (.int .i64 ((t + 9 : Nat) : Int)), Pr.eq (.int .i64 (j2 : Int)), Pr.eq (.pointer (some ⟨bm, 0, none⟩)), Pr.eq (.pointer (some ⟨bm, j2, none⟩)), Pr.eq (.int .u32 ((x2).toNat : Int)), Pr.eq (.int .u32 ((Sha.s0 x1 + x2).toNat : Int)), Pr.eq (.func (.func 59) #[] #[.pointer (some ⟨fs, 0, none⟩), .pointer (some ⟨fp, 0, none⟩)]), Pr.eq (.pointer (some ⟨bm, 0, none⟩)), Pr.eq (.int .i64 (t : Int)), Pr.eq (.int .i64 ((t + 14 : Nat) : Int)), Pr.eq (.int .i64 (j3 : Int)), Pr.eq (.pointer (some ⟨bm, 0, none⟩)), Pr.eq (.pointer (some ⟨bm, j3, none⟩)), Pr.eq (.int .u32 ((x3).toNat : Int)), Pr.eq (.int .u32 ((Sha.s1 x3).toNat : Int)), Pr.eq (.int .u32 ((Sha.s0 x1 + x2 + Sha.s1 x3).toNat : Int)), Pr.eq (.int .u32 ((x0 + (Sha.s0 x1 + x2 + Sha.s1 x3)).toNat : Int)), Pr.eq (.pointer (some ⟨bm, 0, none⟩)), Pr.eq (.pointer (some ⟨bm, j0, none⟩))] (by kernel_rfl) (by kernel_rfl) (by kernel_rfl) (by kernel_rfl) (by kernel_rfl) (by kernel_rfl) rfl ⟨?_, ?_, ?_, ?_, ?_, ?_, ?_, ?_, ?_, ?_, ?_, ?_, ?_, ?_, ?_, ?_, ?_, ?_, ?_, ?_, ?_, ?_, ?_, ?_, ?_, ?_, ?_, ?_, ?_, ?_, ?_, ?_, ?_, ?_, ?_, trivial⟩ ?_
        · exact fun ac W hL he => stepOk_want rfl (op_load rfl (he.keep (.tmp 1) (by kernel_rfl)) (loadQ (hL.cell hcq)) rfl)
        · exact fun ac W hL he => stepOk_want rfl (op_move rfl (he.keep (.tmp 6) (by kernel_rfl)))
        · exact fun ac W hL he => stepOk_want rfl (op_nil rfl (he.get 0 14 (by kernel_rfl) rfl) rfl)
        · exact fun ac W hL he => stepOk_want rfl (op_idx rfl (he.get 2 16 (by kernel_rfl) rfl) (he.get 1 15 (by kernel_rfl) rfl) (idxM hj0' hj0l) rfl)
        · exact fun ac W hL he => stepOk_want rfl (op_load rfl (he.get 3 17 (by kernel_rfl) rfl) (load32 (hL.cell hc0)) rfl)
        · exact fun ac W hL he => stepOk_want rfl (op_load rfl (he.keep (.tmp 2) (by kernel_rfl)) (loadF (hL.cell hcn)) rfl)
        · exact fun ac W hL he => stepOk_want rfl (op_load rfl (he.keep (.tmp 1) (by kernel_rfl)) (loadQ (hL.cell hcq)) rfl)
        · exact fun ac W hL he => stepOk_want rfl (op_move rfl (he.keep (.tmp 5) (by kernel_rfl)))
        · exact fun ac W hL he => stepOk_want rfl (op_binOp rfl (he.get 7 21 (by kernel_rfl) rfl) rfl eqg_add (addI (y := 1) (by omega) (by omega)) rfl)
        · exact fun ac W hL he => stepOk_want rfl (op_binOp rfl (he.get 8 22 (by kernel_rfl) rfl) rfl eqg_rem (remN (y := 16) (by decide) (by omega) (by decide) HJ1.out) rfl)
        · exact fun ac W hL he => stepOk_want rfl (op_nil rfl (he.get 6 20 (by kernel_rfl) rfl) rfl)
        · exact fun ac W hL he => stepOk_want rfl (op_idx rfl (he.get 10 24 (by kernel_rfl) rfl) (he.get 9 23 (by kernel_rfl) rfl) (idxR hj1l) rfl)
        · exact fun ac W hL he => stepOk_want rfl (op_load rfl (he.get 11 25 (by kernel_rfl) rfl) (load32 (hL.cell hc1)) rfl)
        · intro ac W hL he; refine stepOk_want rfl ?_; have e0 : ac.eval (.tmp 19) = (.func (.func 59) #[] #[.pointer (some ⟨ns, 0, none⟩), .pointer (some ⟨np, 0, none⟩)]) := (he.get 5 19 (by kernel_rfl) rfl); have e1 : ac.eval (.tmp 26) = (.int .u32 ((x1).toNat : Int)) := (he.get 12 26 (by kernel_rfl) rfl); exact op_callV rfl e0 (by simp only [List.map_toArray, List.map_cons, List.map_nil, e1]; rfl) (enters_of Try.func59 (by kernel_rfl) rfl) (by rfl) ((rot_s0 x1 W (hrn.later hL)).mono fun e W' ⟨he', hb⟩ => ⟨_, he', hb ▸ Later.refl _, rfl⟩)
        · exact fun ac W hL he => stepOk_want rfl (op_load rfl (he.keep (.tmp 1) (by kernel_rfl)) (loadQ (hL.cell hcq)) rfl)
        · exact fun ac W hL he => stepOk_want rfl (op_move rfl (he.keep (.tmp 5) (by kernel_rfl)))
        · exact fun ac W hL he => stepOk_want rfl (op_binOp rfl (he.get 15 29 (by kernel_rfl) rfl) rfl eqg_add (addI (y := 9) (by omega) (by omega)) rfl)
        · exact fun ac W hL he => stepOk_want rfl (op_binOp rfl (he.get 16 30 (by kernel_rfl) rfl) rfl eqg_rem (remN (y := 16) (by decide) (by omega) (by decide) HJ2.out) rfl)
        · exact fun ac W hL he => stepOk_want rfl (op_nil rfl (he.get 14 28 (by kernel_rfl) rfl) rfl)
        · exact fun ac W hL he => stepOk_want rfl (op_idx rfl (he.get 18 32 (by kernel_rfl) rfl) (he.get 17 31 (by kernel_rfl) rfl) (idxR hj2l) rfl)
        · exact fun ac W hL he => stepOk_want rfl (op_load rfl (he.get 19 33 (by kernel_rfl) rfl) (load32 (hL.cell hc2)) rfl)
        · exact fun ac W hL he => stepOk_want rfl (op_binOp rfl (he.get 13 27 (by kernel_rfl) rfl) (he.get 20 34 (by kernel_rfl) rfl) eqg_add add32 rfl)
        · exact fun ac W hL he => stepOk_want rfl (op_load rfl (he.keep (.tmp 3) (by kernel_rfl)) (loadF (hL.cell hcf)) rfl)
        · exact fun ac W hL he => stepOk_want rfl (op_load rfl (he.keep (.tmp 1) (by kernel_rfl)) (loadQ (hL.cell hcq)) rfl)
        · exact fun ac W hL he => stepOk_want rfl (op_move rfl (he.keep (.tmp 5) (by kernel_rfl)))
        · exact fun ac W hL he => stepOk_want rfl (op_binOp rfl (he.get 24 38 (by kernel_rfl) rfl) rfl eqg_add (addI (y := 14) (by omega) (by omega)) rfl)
        · exact fun ac W hL he => stepOk_want rfl (op_binOp rfl (he.get 25 39 (by kernel_rfl) rfl) rfl eqg_rem (remN (y := 16) (by decide) (by omega) (by decide) HJ3.out) rfl)
        · exact fun ac W hL he => stepOk_want rfl (op_nil rfl (he.get 23 37 (by kernel_rfl) rfl) rfl)
        · exact fun ac W hL he => stepOk_want rfl (op_idx rfl (he.get 27 41 (by kernel_rfl) rfl) (he.get 26 40 (by kernel_rfl) rfl) (idxR hj3l) rfl)
        · exact fun ac W hL he => stepOk_want rfl (op_load rfl (he.get 28 42 (by kernel_rfl) rfl) (load32 (hL.cell hc3)) rfl)
        · intro ac W hL he; refine stepOk_want rfl ?_; have e0 : ac.eval (.tmp 36) = (.func (.func 59) #[] #[.pointer (some ⟨fs, 0, none⟩), .pointer (some ⟨fp, 0, none⟩)]) := (he.get 22 36 (by kernel_rfl) rfl); have e1 : ac.eval (.tmp 43) = (.int .u32 ((x3).toNat : Int)) := (he.get 29 43 (by kernel_rfl) rfl); exact op_callV rfl e0 (by simp only [List.map_toArray, List.map_cons, List.map_nil, e1]; rfl) (enters_of Try.func59 (by kernel_rfl) rfl) (by rfl) ((rot_s1 x3 W (hrf.later hL)).mono fun e W' ⟨he', hb⟩ => ⟨_, he', hb ▸ Later.refl _, rfl⟩)
        · exact fun ac W hL he => stepOk_want rfl (op_binOp rfl (he.get 21 35 (by kernel_rfl) rfl) (he.get 30 44 (by kernel_rfl) rfl) eqg_add add32 rfl)
        · exact fun ac W hL he => stepOk_want rfl (op_binOp rfl (he.get 4 18 (by kernel_rfl) rfl) (he.get 31 45 (by kernel_rfl) rfl) eqg_add add32 rfl)
        · exact fun ac W hL he => stepOk_want rfl (op_nil rfl (he.get 0 14 (by kernel_rfl) rfl) rfl)
        · exact fun ac W hL he => stepOk_want rfl (op_idx rfl (he.get 33 47 (by kernel_rfl) rfl) (he.get 1 15 (by kernel_rfl) rfl) (idxM hj0' hj0l) rfl)
        · intro xs W2 hL hx hk hg
          have e1 := hg 34 48 (by decide) (by kernel_rfl)
          have e2 := hg 32 46 (by decide) (by kernel_rfl)
          have v1 : xs 34 = .pointer (some ⟨bm, j0, none⟩) := hx 34 (by decide)
          have v2 : xs 32 = wordV (x0 + (Sha.s0 x1 + x2 + Sha.s1 x3)) := hx 32 (by decide)
          rw [v1] at e1
          rw [v2, HSUM.out] at e2
          have hr2 := hr.later hL
          refine last_store rfl rfl e1 e2 (store32 (hr2.cell j0 |>.trans (ringC_get m t j0 hj0l)) (hr2.frozen j0)) ?_
          have hr3 := hr2.set j0 (wordV (Sha.M m t))
          rw [HSET.out] at hr3
          have hJ3 := HJ.out _ _ _ _ (HJ.out _ _ _ _ hJs (grown_of_below hL) (fun r e => by cases e)) (grown_set W2 bm j0 (wordV (Sha.M m t))) (fun r e => by cases e; rfl)
          have hk3 : ∀ k, S k → (W2.setCell ⟨bm, j0, none⟩ (wordV (Sha.M m t))).heap[k]? = W2.heap[k]? := fun k hk => heap_setCell_other W2 _ _ _ (fun e => hS (by have e' : k = bm := e; rw [← e']; exact hk))
          have ha3 : AllFn (W2.setCell ⟨bm, j0, none⟩ (wordV (Sha.M m t))) bm bq bn bf S := AllFn.keep ⟨hsq, hq.later hL, hnn.later hL, hff.later hL⟩ hk3
          have hnew := (hr3.cell j0).trans (ringC_get m (t + 1) j0 hj0l)
          rw [show Sha.ringAt m (t + 1) j0 = Sha.M m t from by rw [← HJ0.out]; exact Sha.ringAt_new m t hge] at hnew
          clear hx hk hg e1 e2 v1 v2 hc0 hc1 hc2 hc3 hcn hcf hff hnn hrn hrf hr2 hk3
          generalize W2.setCell ⟨bm, j0, none⟩ (wordV (Sha.M m t)) = W3 at *
          simp only [initL, putL, Nat.reduceAdd, Act.put, List.setIfInBounds_toArray, List.set_cons_succ, List.set_cons_zero]
          have hcq3 : W3.cell? ⟨bq, 0, none⟩ = some (.pointer (some ⟨bm, 0, none⟩)) := (ha3.q.cell 0).trans rfl
          clear hcq
          obtain ⟨fn, tmps, assign, body, hy, hR⟩ := HY.out pre t W3 hJ3 ⟨HT.out.symm, hlt⟩
          unfold wordEnc at hy
          gi_wp2
          refine hR.mono ?_
          rintro e W5 (⟨rfl, hJ5, hk5⟩ | ⟨rfl, hJx5⟩)
          · have hr5 := hk5.2.trans hr3
            have ha5 := AllFn.keep ha3 hk5.1
            have hln : (pre ++ [t]).length = t + 1 := by rw [List.length_append, HT.out]; rfl
            have HLN := Lib.hid hln
            clear hln hk5
            gi_wp2
            go_roundw
            case rel => exact ⟨pre ++ [t], by rw [HLN.out]; go_num, by rw [HLN.out]; omega, by rw [HLN.out]; exact hr5, ha5, hJ5⟩
            case measure => simp [intOf]; omega
          · gi_wp2
            rw [Exit.noGoto_normal]
            go_end0
            exact ⟨⟨_, rfl⟩, .inr ⟨_, trivial, hJx5⟩⟩
      · have hd : decide ((16 : Int) ≤ (t : Int)) = false := by simp; omega
        have hnew := (hr.cell j0).trans (ringC_get m t j0 hj0l)
        rw [Sha.ringAt_low m t j0 (by omega) hj0l, show j0 = t from by omega, ← Sha.M_lt m (by omega : t < 16), show t = j0 from by omega] at hnew
        rw [show Sha.M m j0 = Sha.M m t from by rw [show j0 = t from by omega]] at hnew
        have hrn := ringC_low m t (by omega)
        rw [← hrn] at hr
        have ha0 : AllFn wr bm bq bn bf S := ⟨hsq, hq, hn, hf⟩
        clear hj0 hrn
        obtain ⟨fn, tmps, assign, body, hy, hR⟩ := HY.out pre t wr hJs ⟨HT.out.symm, hlt⟩
        unfold wordEnc at hy
        gi_wp2
        refine hR.mono ?_
        rintro e W5 (⟨rfl, hJ5, hk5⟩ | ⟨rfl, hJx5⟩)
        · have hr5 := hk5.2.trans hr
          have ha5 := AllFn.keep ha0 hk5.1
          have hln : (pre ++ [t]).length = t + 1 := by rw [List.length_append, HT.out]; rfl
          have HLN := Lib.hid hln
          clear hln hk5
          gi_wp2
          go_roundw
          case rel => exact ⟨pre ++ [t], by rw [HLN.out]; go_num, by rw [HLN.out]; omega, by rw [HLN.out]; exact hr5, ha5, hJ5⟩
          case measure => simp [intOf]; omega
        · gi_wp2
          rw [Exit.noGoto_normal]
          go_end0
          exact ⟨⟨_, rfl⟩, .inr ⟨_, trivial, hJx5⟩⟩
    · obtain rfl : t = 64 := by omega
      gi_wp2
      rw [Exit.noGoto_normal]
      go_end0
      exact ⟨⟨_, rfl⟩, .inl ⟨pre, HT.out, hJs⟩⟩
end Go.Proofs.Ytfconncnccgenaa
