/- The walk of the law CrcBursts. -/
import Derived.Test.YtkgpagkhheglgaaCrcL9
import Derived.Test.YtkgpagkhheglgaaCrcL3
import Derived.Test.YtkgpagkhheglgaaCrcL4
import Derived.Test.YtkgpagkhheglgaaCrcL5
import Derived.Test.YtkgpagkhheglgaaOrder2
import Derived.Deep.DeepCutAuto
import Derived.Deep.RegionHeld3
set_option linter.unusedVariables false
namespace Go.Proofs.Ytkgpagkhheglgaa
open Go.RowKit
theorem flip_at (m : List UInt8) (p : Nat) (h : p < 8 * m.length) : ∃ (q j : Nat) (c : UInt8), p / 8 = q ∧ p % 8 = j ∧ j < 8 ∧ q < m.length ∧ m[q]? = some c ∧ Crc.flip p m = m.set q (c ^^^ (1 <<< UInt8.ofNat j)) := by
  have hq : p / 8 < m.length := by omega
  refine ⟨p / 8, p % 8, m[p / 8], rfl, rfl, by omega, hq, List.getElem?_eq_getElem hq, ?_⟩
  unfold Crc.flip
  rw [List.modify_eq_take_cons_drop hq, List.set_eq_take_append_cons_drop, if_pos hq]
theorem xor_pow (c : UInt8) (j : Nat) (h : j < 8) : bits .xor .u8 (c.toNat : Int) ((2 : Int) ^ j % 256) = ((c ^^^ (1 <<< UInt8.ofNat j)).toNat : Int) := by
  have h1 : (2 : Int) ^ j % 256 = (((1 : UInt8) <<< UInt8.ofNat j).toNat : Int) := by
    have : ∀ j : Fin 8, (2 : Int) ^ j.val % 256 = (((1 : UInt8) <<< UInt8.ofNat j.val).toNat : Int) := by decide
    exact this ⟨j, h⟩
  rw [h1, u8_xor_nat _ _ c.toNat_lt (UInt8.toNat_lt _), UInt8.toNat_xor]
theorem Own.cellQ {U : TypeId} {w : World} {base g n c : Nat} {l : List UInt8} (h : Own U w base (.slice (some ⟨g, 0, none⟩) n c) l) {i : Nat} {x : UInt8} (hi : l[i]? = some x) : w.cell? ⟨g, i, none⟩ = some (.int .u8 (x.toNat : Int)) ∧ w.frozen? ⟨g, i, none⟩ = false := by
  obtain ⟨hl, rfl⟩ := List.getElem?_eq_some_iff.1 hi
  exact h.cellAt i hl
theorem and_one (a : BitVec 32) (k : Nat) : (bits .and .u32 ((a.toNat : Int) / 2 ^ k) 1 == 1) = a.getLsbD k := by
  have h2 : a.getLsbD k = decide (a.toNat / 2 ^ k % 2 = 1) := by
    show a.toNat.testBit k = _
    rw [Nat.testBit_eq_decide_div_mod_eq]
  have h3 : (a.toNat : Int) / 2 ^ k = ((a.toNat / 2 ^ k : Nat) : Int) := by push_cast; rfl
  have h4 : a.toNat / 2 ^ k < 4294967296 := Nat.lt_of_le_of_lt (Nat.div_le_self _ _) a.isLt
  rw [h2, h3, show (1 : Int) = ((1 : Nat) : Int) from rfl, u32_and_nat _ _ h4 (by decide), nat_mask1, Bool.eq_iff_iff]
  simp only [beq_iff_eq, decide_eq_true_eq]
  omega
theorem more_sum (a b : List UInt8) : Crc.more (Crc.sum a) b = Crc.sum (a ++ b) := by
  unfold Crc.sum Crc.more
  rw [BitVec.not_not, Crc.run_append]
theorem run_build1 (W : World) (A : Option Addr) (n c : Nat) : (Instr.buildSlice 22 1 #[(0, .slice A n c)]).run Try.prog W = .ok (.slice (some ⟨W.heap.size, 0, none⟩) 1 1) (W.alloc (.cells #[.slice A n c] 24)) := by kernel_rfl
theorem run_build2 (W : World) (A : Option Addr) (n c : Nat) (B : Option Addr) (m d : Nat) : (Instr.buildSlice 22 2 #[(0, .slice A n c), (1, .slice B m d)]).run Try.prog W = .ok (.slice (some ⟨W.heap.size, 0, none⟩) 2 2) (W.alloc (.cells #[.slice A n c, .slice B m d] 24)) := by kernel_rfl
theorem run_build3 (W : World) (A : Option Addr) (n c : Nat) (B : Option Addr) (m d : Nat) (C : Option Addr) (p e : Nat) : (Instr.buildSlice 22 3 #[(0, .slice A n c), (1, .slice B m d), (2, .slice C p e)]).run Try.prog W = .ok (.slice (some ⟨W.heap.size, 0, none⟩) 3 3) (W.alloc (.cells #[.slice A n c, .slice B m d, .slice C p e] 24)) := by kernel_rfl
theorem run_slice_to {P : Program} {t U : TypeId} {A : Option Addr} {n ca k : Nat} (ht : P.underlying t = some (.slice U)) (hi : ByteInfo P U) (h2 : k ≤ ca) :
    ∀ w : World, (Instr.sliceAt t (.slice A n ca) none (some (.int .i64 (k : Int))) none).run P w = .ok (.slice A k ca) w := fun w => by
  obtain ⟨i, hi0, hz, hs, hb⟩ := info_parts hi
  have he : P.elem t = U := by simp [Program.elem, ht]
  have ht' : P.underlying t = some (.slice (P.elem t)) := by rw [he]; exact ht
  rw [run_sliceAt_slice w t _ _ _ _ ht', run_slice_h w t A n ca ht' .i64 (k : Int) (by omega) (by omega), he]
  have hz : ∀ x : Addr, x.add 0 = x := fun x => by simp [Addr.add]
  simp [sizeOf, typeInfo, hi0, hs, sliced, hz]
theorem neq_u32_self (x : BitVec 32) (W : World) : (binOp .neq 23 (.int .u32 (x.toNat : Int)) (.int .u32 (x.toNat : Int))).run Try.prog W = .ok (.bool false) W := by
  have h : (binOp .neq 23 (.int .u32 (x.toNat : Int)) (.int .u32 (x.toNat : Int))).run Try.prog W = .ok (.bool ((x.toNat : Int) != (x.toNat : Int))) W := by kernel_rfl
  rw [h]; simp
theorem crcBursts_no (A : Option Addr) (n ca : Nat) (cut first : Int) (bt : BitVec 32) (w : World) (hm : n ≤ 9223372036854775807) (h : 300 < n ∨ cut < 0 ∨ (n : Int) < cut ∨ first < 0) :
    Calls Try.prog 7 #[.slice A n ca, .int .i64 cut, .int .i64 first, .int .u32 (bt.toNat : Int)] w fun e w' => e = .returned (.bool true) ∧ Below w.heap.size w w' := by
  by_cases g1 : 300 < n
  · have hd1 : decide ((300 : Int) < (n : Int)) = true := by simp; omega
    clear h
    go_enter Try.func7, Try.ntmps7
    go_wp2_with (first | (go_at_call 11; refine (works_any _).mono ?_; rintro e w9 ⟨rfl, hb9⟩))
    go_ret
    exact ⟨rfl, hb9⟩
  · have hd1 : decide ((300 : Int) < (n : Int)) = false := by simp; omega
    by_cases g2 : cut < 0
    · have hd2 : decide (cut < 0) = true := by simpa using g2
      clear h
      go_enter Try.func7, Try.ntmps7
      go_wp2_with (first | (go_at_call 11; refine (works_any _).mono ?_; rintro e w9 ⟨rfl, hb9⟩))
      go_ret
      exact ⟨rfl, hb9⟩
    · have hd2 : decide (cut < 0) = false := by simpa using g2
      by_cases g3 : (n : Int) < cut
      · have hd3 : decide ((n : Int) < cut) = true := by simpa using g3
        clear h
        go_enter Try.func7, Try.ntmps7
        go_wp2_with (first | (go_at_call 11; refine (works_any _).mono ?_; rintro e w9 ⟨rfl, hb9⟩))
        go_ret
        exact ⟨rfl, hb9⟩
      · have hd3 : decide ((n : Int) < cut) = false := by simpa using g3
        have g4 : first < 0 := by omega
        have hd4 : decide (first < 0) = true := by simpa using g4
        clear h
        go_enter Try.func7, Try.ntmps7
        go_wp2_with (first | (go_at_call 11; refine (works_any _).mono ?_; rintro e w9 ⟨rfl, hb9⟩))
        go_ret
        exact ⟨rfl, hb9⟩
set_option maxRecDepth 100000 in
set_option maxHeartbeats 100000000 in
theorem crcBursts_yes (A : Option Addr) (n ca : Nat) (l : List UInt8) (cut : Nat) (first : Nat) (bt : BitVec 32) (w : World) (hn : l.length = n) (hca : n ≤ ca) (h1 : n ≤ 300) (h2 : cut ≤ n) (h3 : first ≤ 9223372036854775807) (hr : Rd w A l) :
    Calls Try.prog 7 #[.slice A n ca, .int .i64 (cut : Int), .int .i64 (first : Int), .int .u32 (bt.toNat : Int)] w fun e w' => e = .returned (.bool true) ∧ Below w.heap.size w w' := by
  have HN := Lib.hid hn
  have hd1 : decide ((300 : Int) < (n : Int)) = false := by simp; omega
  have hd2 : decide ((cut : Int) < 0) = false := by simp
  have hd3 : decide (n < cut) = false := by simp; omega
  have hd4 : decide ((first : Int) < 0) = false := by simp
  have hT : (l.take cut).length = cut := by rw [List.length_take]; omega
  have hD : (l.drop cut).length = n - cut := by rw [List.length_drop]; omega
  have hF2 : [l.take cut, l.drop cut].flatten = l := by simp
  have hF1 : [l].flatten = l := by simp
  have hFt : [l.take cut].flatten = l.take cut := by simp
  have hFd : [l.drop cut].flatten = l.drop cut := by simp
  have hMS := more_sum (l.take cut) (l.drop cut)
  rw [List.take_append_drop] at hMS
  have hrt := hr.take cut
  obtain ⟨D, hslD, hDr⟩ := run_slice_from (P := Try.prog) (A := A) Try.underlying24 (byteInfo : ByteInfo _ 5) h2 hca
  have hrd := hDr w l hn hr
  have HT := Lib.hid hT
  have HD := Lib.hid hD
  have HF2 := Lib.hid hF2
  have HF1 := Lib.hid hF1
  have HFt := Lib.hid hFt
  have HFd := Lib.hid hFd
  have HMS := Lib.hid hMS
  have hP : ∀ q ∈ [l], q.length ≤ 1099511627776 := by intro q hq; simp at hq; subst hq; omega
  have hPt : ∀ q ∈ [l.take cut], q.length ≤ 1099511627776 := by intro q hq; simp at hq; subst hq; omega
  have hPd : ∀ q ∈ [l.drop cut], q.length ≤ 1099511627776 := by intro q hq; simp at hq; subst hq; omega
  have hP2 : ∀ q ∈ [l.take cut, l.drop cut], q.length ≤ 1099511627776 := by intro q hq; simp at hq; rcases hq with rfl | rfl <;> omega
  have HP := Lib.hid hP
  have HPt := Lib.hid hPt
  have HPd := Lib.hid hPd
  have HP2 := Lib.hid hP2
  clear hDr hn hT hD hF2 hF1 hFt hFd hMS hP hPt hPd hP2
  generalize l.take cut = lt at *
  generalize l.drop cut = ld at *
  have hi1 : (0 : Int) ≤ (cut : Int) := by omega
  have hi2 : (cut : Int) ≤ (n : Int) := by omega
  have hi3 : (n : Int) ≤ (ca : Int) := by omega
  have hi4 : (cut : Int) ≤ (ca : Int) := by omega
  have hne : (((Crc.sum l).toNat : Int) != ((Crc.sum l).toNat : Int)) = false := by simp
  go_enter Try.func7, Try.ntmps7
  go_upto_region 3 with fail
  go_cut [62] (fun v W => v = .bool false ∧ Later w W)
  case first =>
    have hsD : ∀ W : World, (Instr.sliceAt 24 (.slice A n ca) (some (.int .i64 (cut : Int))) none none).run Try.prog W = .ok (.slice D (n - cut) (ca - cut)) W := fun W => (run_sliceAt_slice W _ _ _ _ _ (by kernel_rfl)).trans (hslD W)
    have hsT := run_slice_to (P := Try.prog) (A := A) (n := n) Try.underlying24 (byteInfo : ByteInfo _ 5) (Nat.le_trans h2 hca)
    have hnG : ∀ W : World, (eqGuard .neq 23 (.tmp 42) (.tmp 45) (.int .u32 ((Crc.sum l).toNat : Int)) (.int .u32 ((Crc.sum l).toNat : Int))).run Try.prog W = .ok () W := fun W => by kernel_rfl
    have hnG2 : ∀ W : World, (eqGuard .neq 23 (.tmp 57) (.tmp 60) (.int .u32 ((Crc.sum l).toNat : Int)) (.int .u32 ((Crc.sum l).toNat : Int))).run Try.prog W = .ok () W := fun W => by kernel_rfl
    have hnR := fun W : World => neq_u32_self (Crc.sum l) W
    refine wp_region_list [Pr.eq (.slice A n ca), Pr.eq (.int .i64 (cut : Int)), Pr.eq (.slice A cut ca), Pr.eq (.slice A n ca), Pr.eq (.int .i64 (cut : Int)), Pr.eq (.slice D (n - cut) (ca - cut)), Pr.rds 2 [lt, ld], Pr.eq (.int .u32 ((Crc.sum l).toNat : Int)), Pr.eq (.slice A n ca), Pr.rds 1 [l], Pr.eq (.int .u32 ((Crc.sum l).toNat : Int)), Pr.eq (.bool false), Pr.eq (.bool false), Pr.eq (.slice A n ca), Pr.eq (.int .i64 (cut : Int)), Pr.eq (.slice A cut ca), Pr.rds 1 [lt], Pr.eq (.int .u32 ((Crc.sum lt).toNat : Int)), Pr.eq (.slice A n ca), Pr.eq (.int .i64 (cut : Int)), Pr.eq (.slice D (n - cut) (ca - cut)), Pr.rds 1 [ld], Pr.eq (.int .u32 ((Crc.sum l).toNat : Int)), Pr.eq (.slice A n ca), Pr.rds 1 [l], Pr.eq (.int .u32 ((Crc.sum l).toNat : Int)), Pr.eq (.bool false), Pr.eq (.bool false)] (by kernel_rfl) (by kernel_rfl) (by kernel_rfl) (by kernel_rfl) ⟨?_, ?_, ?_, ?_, ?_, ?_, ?_, ?_, ?_, ?_, ?_, ?_, ?_, ?_, ?_, ?_, ?_, ?_, ?_, ?_, ?_, ?_, ?_, ?_, ?_, ?_, ?_, ?_, trivial⟩ ?_
    · exact fun a W hL he => stepOk_want rfl (op_move rfl (he.keep (.tmp 0) (by kernel_rfl)))
    · exact fun a W hL he => stepOk_want rfl (op_move rfl (he.keep (.tmp 1) (by kernel_rfl)))
    · exact fun a W hL he => stepOk_want rfl (op_slice (W' := W) rfl (he.get 0 35 (by kernel_rfl) rfl) (rfl : _ = none) (congrArg some (he.get 1 36 (by kernel_rfl) rfl)) rfl (hsT W) rfl)
    · exact fun a W hL he => stepOk_want rfl (op_move rfl (he.keep (.tmp 0) (by kernel_rfl)))
    · exact fun a W hL he => stepOk_want rfl (op_move rfl (he.keep (.tmp 1) (by kernel_rfl)))
    · exact fun a W hL he => stepOk_want rfl (op_slice (W' := W) rfl (he.get 3 38 (by kernel_rfl) rfl) (congrArg some (he.get 4 39 (by kernel_rfl) rfl)) (rfl : _ = none) rfl (hsD W) rfl)
    · intro a W hL he; refine stepOk_want rfl ?_; have e0 : a.eval (.tmp 37) = (.slice A cut ca) := (he.get 2 37 (by kernel_rfl) rfl); have e1 : a.eval (.tmp 40) = (.slice D (n - cut) (ca - cut)) := (he.get 5 40 (by kernel_rfl) rfl); exact op_buildSlice (W' := _) rfl (by simp only [List.map_toArray, List.map_cons, List.map_nil, e0, e1]; rfl) (run_build2 _ _ _ _ _ _ _) ((Later.refl W).alloc _) ⟨_, rfl, Rds.two_at _ rfl (hrt.later hL) HT.out (hrd.later hL) HD.out⟩
    · intro a W hL he; refine stepOk_want rfl ?_; have e0 := (he.get 6 41 (by kernel_rfl) rfl); obtain ⟨A', e', hrds⟩ := e0; exact op_callF rfl (by simp only [List.map_toArray, List.map_cons, List.map_nil, e']) (enters_of Try.func12 (by kernel_rfl) rfl) ((sum_any A' 2 2 [lt, ld] W rfl (by omega) HP2.out hrds).mono fun e W' ⟨he', hb⟩ => ⟨_, he', hb, by rw [HF2.out]; rfl⟩)
    · exact fun a W hL he => stepOk_want rfl (op_move rfl (he.keep (.tmp 0) (by kernel_rfl)))
    · intro a W hL he; refine stepOk_want rfl ?_; have e0 : a.eval (.tmp 43) = (.slice A n ca) := (he.get 8 43 (by kernel_rfl) rfl); exact op_buildSlice (W' := _) rfl (by simp only [List.map_toArray, List.map_cons, List.map_nil, e0]; rfl) (run_build1 _ _ _ _) ((Later.refl W).alloc _) ⟨_, rfl, Rds.one_at _ rfl (hr.later hL) HN.out⟩
    · intro a W hL he; refine stepOk_want rfl ?_; have e0 := (he.get 9 44 (by kernel_rfl) rfl); obtain ⟨A', e', hrds⟩ := e0; exact op_callF rfl (by simp only [List.map_toArray, List.map_cons, List.map_nil, e']) (enters_of Try.func12 (by kernel_rfl) rfl) ((sum_any A' 1 1 [l] W rfl (by omega) HP.out hrds).mono fun e W' ⟨he', hb⟩ => ⟨_, he', hb, by rw [HF1.out]; rfl⟩)
    · exact fun a W hL he => stepOk_want rfl (op_binOp rfl (he.get 7 42 (by kernel_rfl) rfl) (he.get 10 45 (by kernel_rfl) rfl) (hnG W) (hnR W) rfl)
    · exact fun a W hL he => stepOk_want rfl (op_move rfl (he.get 11 46 (by kernel_rfl) rfl))
    · exact fun a W hL he => stepOk_yes (j := 12) (t := 47) (b := false) rfl rfl (he.get 12 47 (by kernel_rfl) rfl) (op_move rfl (he.keep (.tmp 0) (by kernel_rfl)))
    · exact fun a W hL he => stepOk_yes (j := 12) (t := 47) (b := false) rfl rfl (he.get 12 47 (by kernel_rfl) rfl) (op_move rfl (he.keep (.tmp 1) (by kernel_rfl)))
    · exact fun a W hL he => stepOk_yes (j := 12) (t := 47) (b := false) rfl rfl (he.get 12 47 (by kernel_rfl) rfl) (op_slice (W' := W) rfl (he.get 13 48 (by kernel_rfl) rfl) (rfl : _ = none) (congrArg some (he.get 14 49 (by kernel_rfl) rfl)) rfl (hsT W) rfl)
    · intro a W hL he; refine stepOk_yes (j := 12) (t := 47) (b := false) rfl rfl (he.get 12 47 (by kernel_rfl) rfl) ?_; have e0 : a.eval (.tmp 50) = (.slice A cut ca) := (he.get 15 50 (by kernel_rfl) rfl); exact op_buildSlice (W' := _) rfl (by simp only [List.map_toArray, List.map_cons, List.map_nil, e0]; rfl) (run_build1 _ _ _ _) ((Later.refl W).alloc _) ⟨_, rfl, Rds.one_at _ rfl (hrt.later hL) HT.out⟩
    · intro a W hL he; refine stepOk_yes (j := 12) (t := 47) (b := false) rfl rfl (he.get 12 47 (by kernel_rfl) rfl) ?_; have e0 := (he.get 16 51 (by kernel_rfl) rfl); obtain ⟨A', e', hrds⟩ := e0; exact op_callF rfl (by simp only [List.map_toArray, List.map_cons, List.map_nil, e']) (enters_of Try.func12 (by kernel_rfl) rfl) ((sum_any A' 1 1 [lt] W rfl (by omega) HPt.out hrds).mono fun e W' ⟨he', hb⟩ => ⟨_, he', hb, by rw [HFt.out]; rfl⟩)
    · exact fun a W hL he => stepOk_yes (j := 12) (t := 47) (b := false) rfl rfl (he.get 12 47 (by kernel_rfl) rfl) (op_move rfl (he.keep (.tmp 0) (by kernel_rfl)))
    · exact fun a W hL he => stepOk_yes (j := 12) (t := 47) (b := false) rfl rfl (he.get 12 47 (by kernel_rfl) rfl) (op_move rfl (he.keep (.tmp 1) (by kernel_rfl)))
    · exact fun a W hL he => stepOk_yes (j := 12) (t := 47) (b := false) rfl rfl (he.get 12 47 (by kernel_rfl) rfl) (op_slice (W' := W) rfl (he.get 18 53 (by kernel_rfl) rfl) (congrArg some (he.get 19 54 (by kernel_rfl) rfl)) (rfl : _ = none) rfl (hsD W) rfl)
    · intro a W hL he; refine stepOk_yes (j := 12) (t := 47) (b := false) rfl rfl (he.get 12 47 (by kernel_rfl) rfl) ?_; have e0 : a.eval (.tmp 55) = (.slice D (n - cut) (ca - cut)) := (he.get 20 55 (by kernel_rfl) rfl); exact op_buildSlice (W' := _) rfl (by simp only [List.map_toArray, List.map_cons, List.map_nil, e0]; rfl) (run_build1 _ _ _ _) ((Later.refl W).alloc _) ⟨_, rfl, Rds.one_at _ rfl (hrd.later hL) HD.out⟩
    · intro a W hL he; refine stepOk_yes (j := 12) (t := 47) (b := false) rfl rfl (he.get 12 47 (by kernel_rfl) rfl) ?_; have e0 : a.eval (.tmp 52) = (.int .u32 ((Crc.sum lt).toNat : Int)) := (he.get 17 52 (by kernel_rfl) rfl); have e1 := (he.get 21 56 (by kernel_rfl) rfl); obtain ⟨A', e', hrds⟩ := e1; exact op_callF rfl (by simp only [List.map_toArray, List.map_cons, List.map_nil, e', e0]) (enters_of Try.func13 (by kernel_rfl) rfl) ((more_any (Crc.sum lt) A' 1 1 [ld] W rfl (by omega) HPd.out hrds).mono fun e W' ⟨he', hb⟩ => ⟨_, he', hb, by rw [HFd.out, HMS.out]; rfl⟩)
    · exact fun a W hL he => stepOk_yes (j := 12) (t := 47) (b := false) rfl rfl (he.get 12 47 (by kernel_rfl) rfl) (op_move rfl (he.keep (.tmp 0) (by kernel_rfl)))
    · intro a W hL he; refine stepOk_yes (j := 12) (t := 47) (b := false) rfl rfl (he.get 12 47 (by kernel_rfl) rfl) ?_; have e0 : a.eval (.tmp 58) = (.slice A n ca) := (he.get 23 58 (by kernel_rfl) rfl); exact op_buildSlice (W' := _) rfl (by simp only [List.map_toArray, List.map_cons, List.map_nil, e0]; rfl) (run_build1 _ _ _ _) ((Later.refl W).alloc _) ⟨_, rfl, Rds.one_at _ rfl (hr.later hL) HN.out⟩
    · intro a W hL he; refine stepOk_yes (j := 12) (t := 47) (b := false) rfl rfl (he.get 12 47 (by kernel_rfl) rfl) ?_; have e0 := (he.get 24 59 (by kernel_rfl) rfl); obtain ⟨A', e', hrds⟩ := e0; exact op_callF rfl (by simp only [List.map_toArray, List.map_cons, List.map_nil, e']) (enters_of Try.func12 (by kernel_rfl) rfl) ((sum_any A' 1 1 [l] W rfl (by omega) HP.out hrds).mono fun e W' ⟨he', hb⟩ => ⟨_, he', hb, by rw [HF1.out]; rfl⟩)
    · exact fun a W hL he => stepOk_yes (j := 12) (t := 47) (b := false) rfl rfl (he.get 12 47 (by kernel_rfl) rfl) (op_binOp rfl (he.get 22 57 (by kernel_rfl) rfl) (he.get 25 60 (by kernel_rfl) rfl) (hnG2 W) (hnR W) rfl)
    · exact fun a W hL he => stepOk_want rfl (op_pick (b := false) rfl (he.get 12 47 (by kernel_rfl) rfl) (he.get 26 61 (by kernel_rfl) rfl))
    · intro xs W hL hx
      have h27 : xs 27 = .bool false := hx 27 (by decide)
      clear hx
      simp only [putL, Nat.reduceAdd, Act.put, List.setIfInBounds_toArray, List.set_cons_succ, List.set_cons_zero, h27]
      go_wp2_with fail
      go_meet
      exact ⟨rfl, hL⟩
  case rest =>
    obtain ⟨rfl, hL1⟩ := hcut
    clear HT HD HF2 HFt HFd HMS HPt HPd HP2 hrt hrd hslD hd1 hd2 hd3 hd4
    have hr1 := hr.later hL1
    go_wp2_with fail
    refine (seal_any _ 1 1 [l] _ rfl (by omega) (by rw [HF1.out, HN.out]; omega) HP.out (Rds.one_at _ rfl hr1 HN.out)).mono ?_
    rintro e w2 ⟨v2, rfl, hown2, hb2⟩
    rw [HF1.out] at hown2
    have hL2 : Later w w2 := (hL1.alloc _).call hb2
    have hsl : (l ++ low4 (Crc.sum l)).length = n + 4 := by rw [List.length_append, HN.out]; rfl
    obtain ⟨A2, c2, rfl, hc2, hm2, hrd2⟩ := hown2.slice
    rw [show l ++ low4 (Crc.sum l) = sealed l from rfl] at hrd2
    rw [hsl] at hc2 ⊢
    have HSL := Lib.hid hsl
    clear hown2 hsl hL1 hr1 hb2
    go_wp2_with (first
      | (at_builtin; refine wpList_append_bytes rfl (.tmp 72) (.tmp 73) 24 rfl w2.heap.size 5 Try.underlying24 byteInfo _ [] rfl (own_empty w2 _ _ (Nat.le_refl _)) A2 (n + 4) c2 (sealed l) rfl (by exact HSL.out) (hrd2.alloc _) (by simp; omega) (by simp) ?_; intro v3 w3 hown3 hg3 hat3))
    obtain ⟨g, c3, rfl, hown, hbg, hg3', hlc3, hcm3⟩ := Own.formN (n := n + 4) hown3 (by rw [List.nil_append]; exact HSL.out) (by omega)
    rw [List.nil_append] at hown
    have hL3 : Later w2 w3 := (below_new w2 _).grown hg3 (by simp) (fun k hk => Nat.le_of_eq (Option.some.inj hk))
    clear hown3 hg3 hat3
    obtain ⟨f, hf⟩ : ∃ f : Nat → Bool, f = fun i => bt.getLsbD i := ⟨_, rfl⟩
    have HFF := Lib.hid hf
    clear hf
    go_loopw [11, 12] (fun tv t wr => ∃ k : Nat, k ≤ 32 ∧ t = .int .i64 k ∧ tv = .bool (Crc.turnedTo first f (n + 4) k) ∧ Own 5 wr w2.heap.size (.slice (some ⟨g, 0, none⟩) (n + 4) c3) (Crc.burst first f k (sealed l)) ∧ Below w2.heap.size w2 wr) (fun _ t _ => 32 - (intOf t).toNat)
    case atStart => exact ⟨0, by omega, rfl, rfl, hown, hL3⟩
    case round =>
      obtain ⟨k, hk, rfl, rfl, hok, hbk⟩ := hrel
      clear hown hL3
      have hbtl := bt.isLt
      by_cases hlt : k < 32
      · have hbl : (Crc.burst first f k (sealed l)).length = n + 4 := by rw [Crc.burst_len, sealed_len, HN.out]
        have hb1 := and_one bt k
        have hfk : f k = bt.getLsbD k := by rw [HFF.out]
        have hnx : Crc.burst first f (k + 1) (sealed l) = if Crc.hits first f (n + 4) k then Crc.flip (first + k) (Crc.burst first f k (sealed l)) else Crc.burst first f k (sealed l) := by
          rw [Crc.burst, sealed_len, HN.out]
        have htx : Crc.turnedTo first f (n + 4) (k + 1) = (Crc.turnedTo first f (n + 4) k || Crc.hits first f (n + 4) k) := rfl
        have hh : Crc.hits first f (n + 4) k = (bt.getLsbD k && decide (first + k < 8 * (n + 4))) := by rw [Crc.hits, hfk]
        rw [hh] at hnx htx
        clear hh hfk
        generalize Crc.turnedTo first f (n + 4) k = tv at *
        generalize Crc.burst first f k (sealed l) = m at *
        generalize bt.getLsbD k = bk at *
        cases bk
        · rw [Bool.false_and, if_neg (by simp)] at hnx
          rw [Bool.false_and, Bool.or_false] at htx
          have HNX := Lib.hid hnx
          have HTX := Lib.hid htx
          have HBL := Lib.hid hbl
          clear hnx htx hbl
          go_wp2
          go_roundw
          case rel => exact ⟨k + 1, by omega, by go_num, by rw [HTX.out], by rw [HNX.out]; exact hok, hbk⟩
          case measure => simp [intOf]; omega
        · rw [Bool.true_and] at hnx htx
          by_cases hin : first + k < 8 * (n + 4)
          · rw [decide_eq_true hin, if_pos rfl] at hnx
            rw [decide_eq_true hin, Bool.or_true] at htx
            have hdi : decide ((first : Int) < 8 * ((n : Int) + 4) - (k : Int)) = true := by simp; omega
            obtain ⟨q, j, c, hqe, hje, hj8, hq, hmc, hfl⟩ := flip_at m (first + k) (by rw [hbl]; exact hin)
            rw [hfl] at hnx
            obtain ⟨hc, hf⟩ := hok.cellQ hmc
            obtain ⟨p, hp⟩ : ∃ p : Nat, first + k = p := ⟨_, rfl⟩
            rw [hp] at hqe hje
            have hpi : (first : Int) + (k : Int) = (p : Int) := by omega
            have hp8 : p < 8 * (n + 4) := by omega
            have hq1 : (p : Int).tdiv 8 = (q : Int) := by rw [Int.tdiv_eq_ediv_of_nonneg (by omega)]; omega
            have hq2 : (p : Int) / 8 = (q : Int) := by omega
            have hj1 : (p : Int).tmod 8 = (j : Int) := by rw [Int.tmod_eq_emod_of_nonneg (by omega)]; omega
            have hj2 : (p : Int) % 8 = (j : Int) := by omega
            have hqn : (q : Int) < (n : Int) + 4 := by rw [hbl] at hq; omega
            have hqn2 : q < n + 4 := by rw [hbl] at hq; omega
            have hw : IntKind.i64.wrap ((first : Int) + (k : Int)) = (p : Int) := by rw [hpi]; exact IntWalk.i64_in _ (by omega)
            have hxp := xor_pow c j hj8
            generalize c ^^^ (1 <<< UInt8.ofNat j) = y at hnx hxp
            have HNX := Lib.hid hnx
            have HTX := Lib.hid htx
            have HBL := Lib.hid hbl
            have HQ := Lib.hid hq
            clear hnx htx hbl hfl hp hin hqe hje hq hmc
            have hcl := c.toNat_lt
            go_wp2_with fail
            go_region
            go_wp2_with fail
            go_roundw
            case rel =>
              refine ⟨k + 1, by omega, by go_num, by rw [HTX.out], ?_, (hbk.setCell (p := ⟨g, q, none⟩) hbg _).drew⟩
              rw [HNX.out]
              exact hok.setAt q _ HQ.out
            case measure => simp [intOf]; omega
          · rw [decide_eq_false hin, if_neg (by simp)] at hnx
            rw [decide_eq_false hin, Bool.or_false] at htx
            have hdi : decide ((first : Int) < 8 * ((n : Int) + 4) - (k : Int)) = false := by simp; omega
            have HNX := Lib.hid hnx
            have HTX := Lib.hid htx
            have HBL := Lib.hid hbl
            clear hnx htx hbl
            go_wp2
            go_roundw
            case rel => exact ⟨k + 1, by omega, by go_num, by rw [HTX.out], by rw [HNX.out]; exact hok, hbk⟩
            case measure => simp [intOf]; omega
      · obtain rfl : k = 32 := by omega
        have hL : Later w wr := hL2.call hbk
        obtain ⟨Am, cm, em, hcm, hmm, hrm⟩ := hok.slice
        rw [Crc.burst_len, sealed_len, HN.out] at em hcm
        injection em with em1 _ em2
        subst em1 em2
        have hoe := open_burstE first f l
        have hob := open_burstB first f l
        have hbh := burst_head first f l
        have hsb := Crc.sum_burst first f l
        have hbl : (Crc.burst first f 32 (sealed l)).length = n + 4 := by rw [Crc.burst_len, sealed_len, HN.out]
        rw [HN.out] at hoe hob hbh
        have hrmt := hrm.take n
        rw [hbh] at hrmt
        have hbhl : (Crc.burst first f 32 l).length = n := by rw [Crc.burst_len, HN.out]
        clear hok
        generalize Crc.burst first f 32 (sealed l) = m at *
        generalize Crc.burst first f 32 l = mh at *
        generalize Crc.turnedTo first f (n + 4) 32 = tv at *
        go_wp2_with fail
        refine (open_any _ (n + 4) c3 m _ hbl (by omega) hlc3 hrm).mono ?_
        rintro e w4 ⟨v4, rfl, hown4, hb4⟩
        rw [hoe]
        have hL4 := hL.call hb4
        have hrmt4 := hrmt.below hb4
        have hr4 := hr.later hL4
        have HSB := Lib.hid hsb
        have HBHL := Lib.hid hbhl
        have hrun : w4.heap.size = w4.heap.size := rfl
        have hmin : min (n : Int) ((n : Int) + 4) = (n : Int) := by omega
        have hmin2 : min n (n + 4) = n := by omega
        have hic3 : (n : Int) ≤ (c3 : Int) := by omega
        have hin0 : (0 : Int) ≤ (n : Int) := by omega
        have hstop : ∀ (tv : Bool), tv = tv := fun _ => rfl
        clear hoe hbh hsb hbl hbhl hL hbk hL2 hrun hstop hrm hrmt
        have hcvl := strOf (c := ca) hr4 HN.out
        cases tv
        · have hob' := hob rfl
          rw [hob'] at hown4
          obtain ⟨A4, c4, rfl, _, _, hrd4⟩ := hown4.slice
          have hcv4 := strOf (c := c4) hrd4 rfl
          have hqq := beqL_true (q := l) rfl
          clear hob hob' hown4
          go_wp2_with (first | (go_at_call 20; refine (num_any _ _ (by omega)).mono ?_; rintro e w' ⟨rfl, rfl⟩))
          clear hcvl hcv4 hqq hrd4
          by_cases hu : mh = l
          · subst hu
            have hqq2 := beqL_true (q := mh) rfl
            go_region_held3 (fun w' => Sem.run Try.prog (convert 24 9 (.slice (some ⟨g, 0, none⟩) n c3)) w' = .ok (.string ⟨mh.toArray⟩) w' ∧ Sem.run Try.prog (convert 24 9 (.slice A n ca)) w' = .ok (.string ⟨mh.toArray⟩) w') (exact ⟨strOf hrmt4.drew HN.out, strOf hr4.drew HN.out⟩) (fail)
            go_wp2_with (first | (go_at_call 11; refine (works_any _).mono ?_; rintro e w9 ⟨rfl, hb9⟩))
            go_ret
            exact ⟨rfl, hL4.drew.call hb9⟩
          · have hqq2 := beqL_false hu
            have hss := HSB.out hu
            have hns : ((Crc.sum mh).toNat == (Crc.sum l).toNat) = false := by
              rw [beq_eq_false_iff_ne]; intro e; exact hss (BitVec.eq_of_toNat_eq e)
            have hns2 : (((Crc.sum mh).toNat : Int) != ((Crc.sum l).toNat : Int)) = true := by
              rw [bne_iff_ne]; intro e; exact hss (BitVec.eq_of_toNat_eq (by omega))
            clear hss hu
            have hPm : ∀ q ∈ [mh], q.length ≤ 1099511627776 := by have := HBHL.out; intro q hq; simp at hq; subst hq; omega
            have hFm : [mh].flatten = mh := by simp
            have HPM := Lib.hid hPm
            have HFM := Lib.hid hFm
            clear hPm hFm
            go_region_held3 (fun w' => Sem.run Try.prog (convert 24 9 (.slice (some ⟨g, 0, none⟩) n c3)) w' = .ok (.string ⟨mh.toArray⟩) w' ∧ Sem.run Try.prog (convert 24 9 (.slice A n ca)) w' = .ok (.string ⟨l.toArray⟩) w') (exact ⟨strOf hrmt4.drew HBHL.out, strOf hr4.drew HN.out⟩) (fail)
            clear hqq2
            go_wp2_with fail
            refine (sum_any _ 1 1 [mh] _ rfl (by omega) HPM.out (Rds.one_at _ rfl hrmt4.drew HBHL.out)).mono ?_
            rintro e w5 ⟨rfl, hb5⟩
            rw [HFM.out]
            have hL5 := (hL4.drew.alloc _).call hb5
            go_wp2_with fail
            refine (sum_any _ 1 1 [l] _ rfl (by omega) HP.out (Rds.one_at _ rfl (hr.later hL5) HN.out)).mono ?_
            rintro e w6 ⟨rfl, hb6⟩
            rw [HF1.out]
            have hL6 := (hL5.alloc _).call hb6
            go_wp2_with (first | (go_at_call 11; refine (works_any _).mono ?_; rintro e w9 ⟨rfl, hb9⟩))
            go_ret
            exact ⟨rfl, hL6.call hb9⟩
        · clear hob hown4
          go_wp2_with (first | (go_at_call 20; refine (num_any _ _ (by omega)).mono ?_; rintro e w' ⟨rfl, rfl⟩))
          clear hcvl
          by_cases hu : mh = l
          · subst hu
            have hqq2 := beqL_true (q := mh) rfl
            go_region_held3 (fun w' => Sem.run Try.prog (convert 24 9 (.slice (some ⟨g, 0, none⟩) n c3)) w' = .ok (.string ⟨mh.toArray⟩) w' ∧ Sem.run Try.prog (convert 24 9 (.slice A n ca)) w' = .ok (.string ⟨mh.toArray⟩) w') (exact ⟨strOf hrmt4.drew HN.out, strOf hr4.drew HN.out⟩) (fail)
            go_wp2_with (first | (go_at_call 11; refine (works_any _).mono ?_; rintro e w9 ⟨rfl, hb9⟩))
            go_ret
            exact ⟨rfl, hL4.drew.call hb9⟩
          · have hqq2 := beqL_false hu
            have hss := HSB.out hu
            have hns : ((Crc.sum mh).toNat == (Crc.sum l).toNat) = false := by
              rw [beq_eq_false_iff_ne]; intro e; exact hss (BitVec.eq_of_toNat_eq e)
            have hns2 : (((Crc.sum mh).toNat : Int) != ((Crc.sum l).toNat : Int)) = true := by
              rw [bne_iff_ne]; intro e; exact hss (BitVec.eq_of_toNat_eq (by omega))
            clear hss hu
            have hPm : ∀ q ∈ [mh], q.length ≤ 1099511627776 := by have := HBHL.out; intro q hq; simp at hq; subst hq; omega
            have hFm : [mh].flatten = mh := by simp
            have HPM := Lib.hid hPm
            have HFM := Lib.hid hFm
            clear hPm hFm
            go_region_held3 (fun w' => Sem.run Try.prog (convert 24 9 (.slice (some ⟨g, 0, none⟩) n c3)) w' = .ok (.string ⟨mh.toArray⟩) w' ∧ Sem.run Try.prog (convert 24 9 (.slice A n ca)) w' = .ok (.string ⟨l.toArray⟩) w') (exact ⟨strOf hrmt4.drew HBHL.out, strOf hr4.drew HN.out⟩) (fail)
            clear hqq2
            go_wp2_with fail
            refine (sum_any _ 1 1 [mh] _ rfl (by omega) HPM.out (Rds.one_at _ rfl hrmt4.drew HBHL.out)).mono ?_
            rintro e w5 ⟨rfl, hb5⟩
            rw [HFM.out]
            have hL5 := (hL4.drew.alloc _).call hb5
            go_wp2_with fail
            refine (sum_any _ 1 1 [l] _ rfl (by omega) HP.out (Rds.one_at _ rfl (hr.later hL5) HN.out)).mono ?_
            rintro e w6 ⟨rfl, hb6⟩
            rw [HF1.out]
            have hL6 := (hL5.alloc _).call hb6
            go_wp2_with (first | (go_at_call 11; refine (works_any _).mono ?_; rintro e w9 ⟨rfl, hb9⟩))
            go_ret
            exact ⟨rfl, hL6.call hb9⟩
theorem crcBursts_walk (A : Option Addr) (n ca : Nat) (l : List UInt8) (cut : Int) (wc : (Lit.int .i64 cut).wf = true) (first : Int) (wf : (Lit.int .i64 first).wf = true) (a : Int) (wa : (Lit.int .u32 a).wf = true) (w : World) (hi : InBytes w A n ca l) :
    Calls Try.prog 7 #[.slice A n ca, .int .i64 cut, .int .i64 first, .int .u32 a] w fun e w' => e = .returned (.bool true) ∧ Below w.heap.size w w' := by
  obtain ⟨bt, rfl⟩ := wf_u32 wa
  obtain ⟨_, hf2⟩ := bounds_i64 wf
  obtain ⟨_, hc2⟩ := bounds_i64 wc
  obtain ⟨hn, hc, hm, hr⟩ := hi
  unfold maxLen at hm
  by_cases h : 300 < n ∨ cut < 0 ∨ (n : Int) < cut ∨ first < 0
  · exact crcBursts_no A n ca cut first bt w (by omega) h
  · obtain ⟨c', rfl⟩ : ∃ c' : Nat, cut = (c' : Int) := ⟨cut.toNat, by omega⟩
    obtain ⟨f', rfl⟩ : ∃ f' : Nat, first = (f' : Int) := ⟨first.toNat, by omega⟩
    exact crcBursts_yes A n ca l c' f' bt w hn hc (by omega) (by omega) (by omega) hr
end Go.Proofs.Ytkgpagkhheglgaa
