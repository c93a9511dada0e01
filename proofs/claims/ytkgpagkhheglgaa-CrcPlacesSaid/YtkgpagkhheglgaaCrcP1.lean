/- The walk of the law CrcPlaces. -/
import Derived.Test.YtkgpagkhheglgaaCrcL8
import Derived.Test.YtkgpagkhheglgaaMake
import Derived.Test.YtkgpagkhheglgaaRun
import Derived.Test.YtkgpagkhheglgaaRun
import Derived.Deep.DeepCutAuto
import Derived.Deep.RegionHeld3
set_option linter.unusedVariables false
namespace Go.Proofs.Ytkgpagkhheglgaa
open Go.RowKit
theorem run_far (x : BitVec 32) (a b : List UInt8) : Crc.run x (a ++ b) = Crc.run 0#32 b ^^^ Crc.far (Crc.run x a) b.length := by
  rw [Crc.run_append]
  conv => lhs; rw [← BitVec.zero_xor (x := Crc.run x a), Crc.run_xor]
theorem not_xor (x y : BitVec 32) : ~~~ x ^^^ ~~~ y = x ^^^ y := by
  apply BitVec.eq_of_getLsbD_eq
  intro i hi
  simp [hi]
/-- The sum with another part. -/
theorem patch_sum (a p q b : List UInt8) (h : p.length = q.length) : patch (Crc.sum (a ++ p ++ b)) (Crc.sum p) (Crc.sum q) b.length = Crc.sum (a ++ q ++ b) := by
  unfold patch Crc.sum Crc.more
  rw [not_xor]
  have e : ∀ z : BitVec 32, ∀ l : List UInt8, Crc.run z l = Crc.run 0#32 l ^^^ Crc.far z l.length := fun z l => by
    conv => lhs; rw [← BitVec.zero_xor (x := z), Crc.run_xor]
  generalize ~~~ 0#32 = o
  rw [Crc.run_append, Crc.run_append, Crc.run_append, Crc.run_append]
  rw [e o p, e o q, e (Crc.run o a) p, e (Crc.run o a) q, h]
  generalize Crc.run 0#32 p = P
  generalize Crc.run 0#32 q = Q
  rw [show P ^^^ Crc.far o q.length ^^^ (Q ^^^ Crc.far o q.length) = P ^^^ Q from by
    apply BitVec.eq_of_getLsbD_eq
    intro i hi
    simp only [BitVec.getLsbD_xor]
    cases P.getLsbD i <;> cases Q.getLsbD i <;> cases (Crc.far o q.length).getLsbD i <;> rfl]
  generalize Crc.far (Crc.run o a) q.length = F
  rw [Crc.run_xor, Crc.run_xor, e P b, e Q b, Crc.far_xor]
  generalize Crc.far P b.length = P'
  generalize Crc.far Q b.length = Q'
  generalize Crc.run 0#32 b = B
  generalize Crc.far F b.length = F'
  apply BitVec.eq_of_getLsbD_eq
  intro i hi
  simp only [BitVec.getLsbD_xor, BitVec.getLsbD_not, hi, decide_true, Bool.true_and]
  cases P'.getLsbD i <;> cases Q'.getLsbD i <;> cases B.getLsbD i <;> cases F'.getLsbD i <;> rfl
theorem noughts_sum (a : List UInt8) (n : Nat) : noughts (Crc.sum a) n = Crc.sum (a ++ zeroB n) := by
  unfold noughts Crc.sum Crc.more zeroB
  rw [BitVec.not_not, Crc.run_append, Crc.run_zeros]
set_option maxRecDepth 100000 in
set_option maxHeartbeats 100000000 in
theorem crcPlaces_yes (A B C D : Option Addr) (na ca np cp nq cq nb cb : Nat) (a p' q' b : List UInt8) (w : World) (ha : a.length = na) (hp : p'.length = np) (hq : q'.length = nq) (hb : b.length = nb) (h1 : na ≤ 200) (h2 : np ≤ 200) (h3 : nq ≤ 200) (h4 : nb ≤ 200)
    (k1 : na ≤ ca) (k2 : np ≤ cp) (k3 : nq ≤ cq) (k4 : nb ≤ cb) (hra : Rd w A a) (hrp' : Rd w B p') (hrq' : Rd w C q') (hrb : Rd w D b) :
    Calls Try.prog 9 #[.slice A na ca, .slice B np cp, .slice C nq cq, .slice D nb cb] w fun e w' => e = .returned (.bool true) ∧ Below w.heap.size w w' := by
  obtain ⟨n, hnm⟩ : ∃ n, min np nq = n := ⟨_, rfl⟩
  have hmi : min (np : Int) (nq : Int) = (n : Int) := by omega
  have hnp : n ≤ np := by omega
  have hnq : n ≤ nq := by omega
  have hpl : (p'.take n).length = n := by rw [List.length_take]; omega
  have hql : (q'.take n).length = n := by rw [List.length_take]; omega
  have hrp := hrp'.take n
  have hrq := hrq'.take n
  have hd1 : decide ((200 : Int) < (na : Int)) = false := by simp; omega
  have hd2 : decide ((200 : Int) < (np : Int)) = false := by simp; omega
  have hd3 : decide ((200 : Int) < (nq : Int)) = false := by simp; omega
  have hd4 : decide ((200 : Int) < (nb : Int)) = false := by simp; omega
  clear hrp' hrq' hp hq
  generalize p'.take n = p at *
  generalize q'.take n = q at *
  have hPS := patch_sum a p q b (by rw [hpl, hql])
  rw [List.append_assoc, List.append_assoc] at hPS
  have hNS := noughts_sum a n
  rw [hb] at hPS
  have hF3 : [a, p, b].flatten = a ++ (p ++ b) := by simp
  have hF3q : [a, q, b].flatten = a ++ (q ++ b) := by simp
  have hFz : [a, zeroB n].flatten = a ++ zeroB n := by simp
  have hFp : [p].flatten = p := by simp
  have hFq : [q].flatten = q := by simp
  have hFa : [a].flatten = a := by simp
  have hz := zeroB_len n
  have hP3 : ∀ x ∈ [a, p, b], x.length ≤ 1099511627776 := by intro x hx; simp at hx; rcases hx with rfl | rfl | rfl <;> omega
  have hP3q : ∀ x ∈ [a, q, b], x.length ≤ 1099511627776 := by intro x hx; simp at hx; rcases hx with rfl | rfl | rfl <;> omega
  have hPz : ∀ x ∈ [a, zeroB n], x.length ≤ 1099511627776 := by intro x hx; simp at hx; rcases hx with rfl | rfl <;> omega
  have hPp : ∀ x ∈ [p], x.length ≤ 1099511627776 := by intro x hx; simp at hx; subst hx; omega
  have hPq : ∀ x ∈ [q], x.length ≤ 1099511627776 := by intro x hx; simp at hx; subst hx; omega
  have hPa : ∀ x ∈ [a], x.length ≤ 1099511627776 := by intro x hx; simp at hx; subst hx; omega
  have HPS := Lib.hid hPS
  have HNS := Lib.hid hNS
  have HF3 := Lib.hid hF3
  have HF3q := Lib.hid hF3q
  have HFz := Lib.hid hFz
  have HFp := Lib.hid hFp
  have HFq := Lib.hid hFq
  have HFa := Lib.hid hFa
  have HZ := Lib.hid hz
  have HP3 := Lib.hid hP3
  have HP3q := Lib.hid hP3q
  have HPz := Lib.hid hPz
  have HPp := Lib.hid hPp
  have HPq := Lib.hid hPq
  have HPa := Lib.hid hPa
  have HA := Lib.hid ha
  have HB := Lib.hid hb
  have HPL := Lib.hid hpl
  have HQL := Lib.hid hql
  have hmk := fun w' => run_make_bytes (P := Try.prog) Try.underlying24 byteInfo n (by omega) w'
  have hi0 : (0 : Int) ≤ (n : Int) := by omega
  have hi1 : (n : Int) ≤ (cp : Int) := by omega
  have hi2 : (n : Int) ≤ (cq : Int) := by omega
  have hmi2 : (if nq < np then (nq : Int) else (np : Int)) = (n : Int) := by split <;> omega
  clear hPS hNS hF3 hF3q hFz hFp hFq hFa hz hP3 hP3q hPz hPp hPq hPa ha hb hpl hql
  generalize zeroB n = z at *
  go_enter Try.func9, Try.ntmps9
  go_upto_region 4 with fail
  go_cut [10, 11] (fun s e W => s = .int .u32 ((Crc.sum (a ++ (q ++ b))).toNat : Int) ∧ e = .int .i64 0 ∧ Later w W)
  case first =>
    clear hmk
    have hsB := run_slice_upto (P := Try.prog) (A := B) (n := np) Try.underlying24 (byteInfo : ByteInfo _ 5) (Nat.le_trans hnp k2)
    have hsC := run_slice_upto (P := Try.prog) (A := C) (n := nq) Try.underlying24 (byteInfo : ByteInfo _ 5) (Nat.le_trans hnq k3)
    refine wp_region_list [Pr.eq (.slice A na ca), Pr.eq (.slice B np cp), Pr.eq (.int .i64 (n : Int)), Pr.eq (.slice B n cp), Pr.eq (.slice D nb cb), Pr.rds 3 [a, p, b], Pr.eq (.int .u32 ((Crc.sum (a ++ (p ++ b))).toNat : Int)), Pr.eq (.slice B np cp), Pr.eq (.int .i64 (n : Int)), Pr.eq (.slice B n cp), Pr.rds 1 [p], Pr.eq (.int .u32 ((Crc.sum p).toNat : Int)), Pr.eq (.slice C nq cq), Pr.eq (.int .i64 (n : Int)), Pr.eq (.slice C n cq), Pr.rds 1 [q], Pr.eq (.int .u32 ((Crc.sum q).toNat : Int)), Pr.eq (.slice D nb cb), Pr.eq (.int .i64 (nb : Int)), Pr.eq (.tuple #[.int .u32 ((Crc.sum (a ++ (q ++ b))).toNat : Int), .int .i64 0]), Pr.eq (.tuple #[.int .u32 ((Crc.sum (a ++ (q ++ b))).toNat : Int), .int .i64 0]), Pr.eq (.int .u32 ((Crc.sum (a ++ (q ++ b))).toNat : Int)), Pr.eq (.int .i64 0), Pr.eq (.int .u32 ((Crc.sum (a ++ (q ++ b))).toNat : Int)), Pr.eq (.int .i64 0)] (by kernel_rfl) (by kernel_rfl) (by kernel_rfl) (by kernel_rfl) ⟨?_, ?_, ?_, ?_, ?_, ?_, ?_, ?_, ?_, ?_, ?_, ?_, ?_, ?_, ?_, ?_, ?_, ?_, ?_, ?_, ?_, ?_, ?_, ?_, ?_, trivial⟩ ?_
    · exact fun ac W hL he => stepOk_want rfl (op_move rfl (he.keep (.tmp 0) (by kernel_rfl)))
    · exact fun ac W hL he => stepOk_want rfl (op_move rfl (he.keep (.tmp 1) (by kernel_rfl)))
    · exact fun ac W hL he => stepOk_want rfl (op_move rfl (he.keep (.tmp 9) (by kernel_rfl)))
    · exact fun ac W hL he => stepOk_want rfl (op_slice (W' := W) rfl (he.get 1 40 (by kernel_rfl) rfl) (rfl : _ = none) (congrArg some (he.get 2 41 (by kernel_rfl) rfl)) rfl (hsB W) rfl)
    · exact fun ac W hL he => stepOk_want rfl (op_move rfl (he.keep (.tmp 3) (by kernel_rfl)))
    · intro ac W hL he; refine stepOk_want rfl ?_; have e0 : ac.eval (.tmp 39) = (.slice A na ca) := (he.get 0 39 (by kernel_rfl) rfl); have e1 : ac.eval (.tmp 42) = (.slice B n cp) := (he.get 3 42 (by kernel_rfl) rfl); have e2 : ac.eval (.tmp 43) = (.slice D nb cb) := (he.get 4 43 (by kernel_rfl) rfl); exact op_buildSlice (W' := _) rfl (by simp only [List.map_toArray, List.map_cons, List.map_nil, e0, e1, e2]; rfl) (run_rows3 _ _ _ _ _ _ _ _ _ _) ((Later.refl W).alloc _) ⟨_, rfl, Rds.three_at _ rfl (hra.later hL) HA.out (hrp.later hL) HPL.out (hrb.later hL) HB.out⟩
    · intro ac W hL he; refine stepOk_want rfl ?_; have e0 := (he.get 5 44 (by kernel_rfl) rfl); obtain ⟨A', e', hrds⟩ := e0; exact op_callF rfl (by simp only [List.map_toArray, List.map_cons, List.map_nil, e']) (enters_of Try.func12 (by kernel_rfl) rfl) ((sum_any A' 3 3 [a, p, b] W rfl (by omega) HP3.out hrds).mono fun e W' ⟨he', hb⟩ => ⟨_, he', hb, by rw [HF3.out]; rfl⟩)
    · exact fun ac W hL he => stepOk_want rfl (op_move rfl (he.keep (.tmp 1) (by kernel_rfl)))
    · exact fun ac W hL he => stepOk_want rfl (op_move rfl (he.keep (.tmp 9) (by kernel_rfl)))
    · exact fun ac W hL he => stepOk_want rfl (op_slice (W' := W) rfl (he.get 7 46 (by kernel_rfl) rfl) (rfl : _ = none) (congrArg some (he.get 8 47 (by kernel_rfl) rfl)) rfl (hsB W) rfl)
    · intro ac W hL he; refine stepOk_want rfl ?_; have e0 : ac.eval (.tmp 48) = (.slice B n cp) := (he.get 9 48 (by kernel_rfl) rfl); exact op_buildSlice (W' := _) rfl (by simp only [List.map_toArray, List.map_cons, List.map_nil, e0]; rfl) (run_rows1 _ _ _ _) ((Later.refl W).alloc _) ⟨_, rfl, Rds.one_at _ rfl (hrp.later hL) HPL.out⟩
    · intro ac W hL he; refine stepOk_want rfl ?_; have e0 := (he.get 10 49 (by kernel_rfl) rfl); obtain ⟨A', e', hrds⟩ := e0; exact op_callF rfl (by simp only [List.map_toArray, List.map_cons, List.map_nil, e']) (enters_of Try.func12 (by kernel_rfl) rfl) ((sum_any A' 1 1 [p] W rfl (by omega) HPp.out hrds).mono fun e W' ⟨he', hb⟩ => ⟨_, he', hb, by rw [HFp.out]; rfl⟩)
    · exact fun ac W hL he => stepOk_want rfl (op_move rfl (he.keep (.tmp 2) (by kernel_rfl)))
    · exact fun ac W hL he => stepOk_want rfl (op_move rfl (he.keep (.tmp 9) (by kernel_rfl)))
    · exact fun ac W hL he => stepOk_want rfl (op_slice (W' := W) rfl (he.get 12 51 (by kernel_rfl) rfl) (rfl : _ = none) (congrArg some (he.get 13 52 (by kernel_rfl) rfl)) rfl (hsC W) rfl)
    · intro ac W hL he; refine stepOk_want rfl ?_; have e0 : ac.eval (.tmp 53) = (.slice C n cq) := (he.get 14 53 (by kernel_rfl) rfl); exact op_buildSlice (W' := _) rfl (by simp only [List.map_toArray, List.map_cons, List.map_nil, e0]; rfl) (run_rows1 _ _ _ _) ((Later.refl W).alloc _) ⟨_, rfl, Rds.one_at _ rfl (hrq.later hL) HQL.out⟩
    · intro ac W hL he; refine stepOk_want rfl ?_; have e0 := (he.get 15 54 (by kernel_rfl) rfl); obtain ⟨A', e', hrds⟩ := e0; exact op_callF rfl (by simp only [List.map_toArray, List.map_cons, List.map_nil, e']) (enters_of Try.func12 (by kernel_rfl) rfl) ((sum_any A' 1 1 [q] W rfl (by omega) HPq.out hrds).mono fun e W' ⟨he', hb⟩ => ⟨_, he', hb, by rw [HFq.out]; rfl⟩)
    · exact fun ac W hL he => stepOk_want rfl (op_move rfl (he.keep (.tmp 3) (by kernel_rfl)))
    · exact fun ac W hL he => stepOk_want rfl (op_len Try.underlying24 rfl (he.get 17 56 (by kernel_rfl) rfl) rfl)
    · intro ac W hL he; refine stepOk_want rfl ?_; have e0 : ac.eval (.tmp 45) = (.int .u32 ((Crc.sum (a ++ (p ++ b))).toNat : Int)) := (he.get 6 45 (by kernel_rfl) rfl); have e1 : ac.eval (.tmp 50) = (.int .u32 ((Crc.sum p).toNat : Int)) := (he.get 11 50 (by kernel_rfl) rfl); have e2 : ac.eval (.tmp 55) = (.int .u32 ((Crc.sum q).toNat : Int)) := (he.get 16 55 (by kernel_rfl) rfl); have e3 : ac.eval (.tmp 57) = (.int .i64 (nb : Int)) := (he.get 18 57 (by kernel_rfl) rfl); exact op_callF rfl (by simp only [List.map_toArray, List.map_cons, List.map_nil, e0, e1, e2, e3]) (enters_of Try.func25 (by kernel_rfl) rfl) ((patch_yes (Crc.sum (a ++ (p ++ b))) (Crc.sum p) (Crc.sum q) nb W (by omega)).mono fun e W' ⟨he', hb⟩ => ⟨_, he', hb, by rw [HPS.out]; rfl⟩)
    · exact fun ac W hL he => stepOk_want rfl (op_move rfl (he.get 19 58 (by kernel_rfl) rfl))
    · exact fun ac W hL he => stepOk_want rfl (op_extract rfl (he.get 20 38 (by kernel_rfl) rfl) (run_extract0 _ _ W) rfl)
    · exact fun ac W hL he => stepOk_want rfl (op_extract rfl (he.get 20 38 (by kernel_rfl) rfl) (run_extract1 _ _ W) rfl)
    · exact fun ac W hL he => stepOk_want rfl (op_assign rfl (he.get 21 59 (by kernel_rfl) rfl))
    · exact fun ac W hL he => stepOk_want rfl (op_assign rfl (he.get 22 60 (by kernel_rfl) rfl))
    · intro xs W hL hx
      have h23 : xs 23 = .int .u32 ((Crc.sum (a ++ (q ++ b))).toNat : Int) := hx 23 (by decide)
      have h24 : xs 24 = .int .i64 0 := hx 24 (by decide)
      clear hx
      simp only [putL, Nat.reduceAdd, Act.put, List.setIfInBounds_toArray, List.set_cons_succ, List.set_cons_zero, h23, h24]
      go_wp2_with fail
      go_meet
      exact ⟨rfl, rfl, hL⟩
  case rest =>
    obtain ⟨rfl, rfl, hL1⟩ := hcut
    go_wp2_with fail
    refine (sum_any _ 1 1 [a] _ rfl (by omega) HPa.out (Rds.one_at _ rfl (hra.later hL1) HA.out)).mono ?_
    rintro e w2 ⟨rfl, hb2⟩
    rw [HFa.out]
    have hL2 := (hL1.alloc _).call hb2
    go_wp2_with fail
    refine (noughts_yes (Crc.sum a) n _ (by omega)).mono ?_
    rintro e w3 ⟨rfl, hb3⟩
    rw [HNS.out]
    have hL3 := hL2.call hb3
    go_wp2_with (first | (go_at_call 20; refine (num_any _ _ (by omega)).mono ?_; rintro e w' ⟨rfl, rfl⟩))
    refine (sum_any _ 3 3 [a, q, b] _ rfl (by omega) HP3q.out (Rds.three_at _ rfl (hra.later hL3) HA.out (hrq.later hL3) HQL.out (hrb.later hL3) HB.out)).mono ?_
    rintro e w4 ⟨rfl, hb4⟩
    rw [HF3q.out]
    have hL4 := (hL3.alloc _).call hb4
    have ht : (((Crc.sum (a ++ (q ++ b))).toNat : Int) == ((Crc.sum (a ++ (q ++ b))).toNat : Int)) = true := beq_self_eq_true _
    have ht2 : (((Crc.sum (a ++ z)).toNat : Int) == ((Crc.sum (a ++ z)).toNat : Int)) = true := beq_self_eq_true _
    go_wp2_with fail
    refine (sum_any _ 2 2 [a, z] _ rfl (by omega) HPz.out (Rds.two_at _ (by simp) ((hra.later hL4).alloc _) HA.out (Rd.lit w4 _ z) HZ.out)).mono ?_
    rintro e w5 ⟨rfl, hb5⟩
    rw [HFz.out]
    have hL5 := ((hL4.alloc _).alloc _).call hb5
    go_wp2_with (first | (go_at_call 11; refine (works_any _).mono ?_; rintro e w9 ⟨rfl, hb9⟩))
    go_ret
    exact ⟨rfl, hL5.call hb9⟩
theorem crcPlaces_no (A B C D : Option Addr) (na ca np cp nq cq nb cb : Nat) (w : World) (m1 : na ≤ 9223372036854775807) (m2 : np ≤ 9223372036854775807) (m3 : nq ≤ 9223372036854775807) (m4 : nb ≤ 9223372036854775807) (h : 200 < na ∨ 200 < np ∨ 200 < nq ∨ 200 < nb) :
    Calls Try.prog 9 #[.slice A na ca, .slice B np cp, .slice C nq cq, .slice D nb cb] w fun e w' => e = .returned (.bool true) ∧ Below w.heap.size w w' := by
  have hs : ∃ b1 b2 b3 b4 : Bool, decide ((200 : Int) < (na : Int)) = b1 ∧ decide ((200 : Int) < (np : Int)) = b2 ∧ decide ((200 : Int) < (nq : Int)) = b3 ∧ decide ((200 : Int) < (nb : Int)) = b4 := ⟨_, _, _, _, rfl, rfl, rfl, rfl⟩
  obtain ⟨b1, b2, b3, b4, e1, e2, e3, e4⟩ := hs
  have hor : (b1 || b2 || b3 || b4) = true := by
    rw [← e1, ← e2, ← e3, ← e4]
    simp
    omega
  clear h
  cases b1
  · cases b2
    · cases b3
      · cases b4
        · cases hor
        · clear hor
          go_enter Try.func9, Try.ntmps9
          go_wp2_with (first | (go_at_call 11; refine (works_any _).mono ?_; rintro e w9 ⟨rfl, hb9⟩))
          go_ret
          exact ⟨rfl, hb9⟩
      · clear hor
        go_enter Try.func9, Try.ntmps9
        go_wp2_with (first | (go_at_call 11; refine (works_any _).mono ?_; rintro e w9 ⟨rfl, hb9⟩))
        go_ret
        exact ⟨rfl, hb9⟩
    · clear hor
      go_enter Try.func9, Try.ntmps9
      go_wp2_with (first | (go_at_call 11; refine (works_any _).mono ?_; rintro e w9 ⟨rfl, hb9⟩))
      go_ret
      exact ⟨rfl, hb9⟩
  · clear hor
    go_enter Try.func9, Try.ntmps9
    go_wp2_with (first | (go_at_call 11; refine (works_any _).mono ?_; rintro e w9 ⟨rfl, hb9⟩))
    go_ret
    exact ⟨rfl, hb9⟩
theorem crcPlaces_walk (A : Option Addr) (na ca : Nat) (a : List UInt8) (B : Option Addr) (np cp : Nat) (p : List UInt8) (C : Option Addr) (nq cq : Nat) (q : List UInt8) (D : Option Addr) (nb cb : Nat) (b : List UInt8) (w : World) (hi1 : InBytes w A na ca a) (hi2 : InBytes w B np cp p) (hi3 : InBytes w C nq cq q) (hi4 : InBytes w D nb cb b) :
    Calls Try.prog 9 #[.slice A na ca, .slice B np cp, .slice C nq cq, .slice D nb cb] w fun e w' => e = .returned (.bool true) ∧ Below w.heap.size w w' := by
  obtain ⟨a1, a2, a3, a4⟩ := hi1
  obtain ⟨b1, b2, b3, b4⟩ := hi2
  obtain ⟨c1, c2, c3, c4⟩ := hi3
  obtain ⟨d1, d2, d3, d4⟩ := hi4
  unfold maxLen at a3 b3 c3 d3
  by_cases h : 200 < na ∨ 200 < np ∨ 200 < nq ∨ 200 < nb
  · exact crcPlaces_no A B C D na ca np cp nq cq nb cb w (by omega) (by omega) (by omega) (by omega) h
  · exact crcPlaces_yes A B C D na ca np cp nq cq nb cb a p q b w a1 b1 c1 d1 (by omega) (by omega) (by omega) (by omega) a2 b2 c2 d2 a4 b4 c4 d4
end Go.Proofs.Ytkgpagkhheglgaa
