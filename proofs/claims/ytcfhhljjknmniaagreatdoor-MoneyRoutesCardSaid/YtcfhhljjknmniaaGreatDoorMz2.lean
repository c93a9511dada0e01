/- Joined: Mm5, Mm6, Mm7, Mz8, Mz9. -/
import Derived.Test.YtcfhhljjknmniaaGreatDoorMz1
import Derived.Test.YtcfhhljjknmniaaGreatDoorShelf
import Derived.Test.YtcfhhljjknmniaaGreatDoorRows
import Derived.MakeChecks
import Derived.LaidLaws
import Derived.Lib.ItoaLen
import Derived.Lib.AppendIntMem
set_option linter.unusedVariables false
set_option linter.unusedSimpArgs false
namespace Go.Proofs.YtcfhhljjknmniaaGreatDoor
open Go.RowKit
theorem mul_split (n k : Nat) : n * k / 18446744073709551616 * 18446744073709551616 + n * k % 18446744073709551616 = n * k := by omega
set_option maxRecDepth 100000 in
theorem of1_any (g n k : Nat) (w : World) (hg : w.cell? ⟨g, 0, none⟩ = some (.int .i64 (n : Int))) (hn : n < 9223372036854775808) (hk : k < 18446744073709551616) (hq : n * k / 18446744073709551616 < 64) (hr : n * k / 1000000 < 9223372036854775808) :
    Calls Tryz.prog 39 #[.int .u64 (k : Int), .int .u64 1000000, .pointer (some ⟨g, 0, none⟩)] w fun e w' => e = .returned (.int .i64 ((n * k / 1000000 : Nat) : Int)) ∧ Later w w' := by
  refine Calls.post fun Φ HΦ => ?_
  have hm := Tryz.bits_Mul64 n k (by omega) hk w
  have hd := div64_all (n * k / 18446744073709551616) (n * k % 18446744073709551616) w hq (Nat.mod_lt _ (by decide))
  rw [mul_split n k] at hd
  obtain ⟨r, hr'⟩ : ∃ r, n * k / 1000000 = r := ⟨_, rfl⟩
  obtain ⟨H, hH⟩ : ∃ r, n * k / 18446744073709551616 = r := ⟨_, rfl⟩
  obtain ⟨L, hL⟩ : ∃ r, n * k % 18446744073709551616 = r := ⟨_, rfl⟩
  rw [hr'] at hr hd HΦ
  rw [hH] at hm hd
  rw [hL] at hm hd
  clear hr' hH hL hq
  have c1 : IntKind.u64.wrap (n : Int) = (n : Int) := by rw [IntKind.wrap_u64]; omega
  have c2 : IntKind.i64.wrap (r : Int) = (r : Int) := IntWalk.i64_in _ (by omega)
  go_enter Tryz.func39, Tryz.ntmps39
  go_wp2_with (first
    | (go_at_call 40; refine hm.mono ?_; clear hm; rintro e w1 ⟨rfl, rfl⟩)
    | (go_at_call 41; refine hd.mono ?_; clear hd; rintro e w1 ⟨⟨z, rfl⟩, hL⟩)
    | fail)
  exact HΦ.out _ _ ⟨rfl, hL⟩
set_option maxRecDepth 100000 in
theorem of_any (n : Int) (w : World) :
    Calls Tryz.prog 28 #[.int .i64 n] w fun e w' => e = .returned (.func (.func 39) #[] #[.pointer (some ⟨w.heap.size, 0, none⟩)]) ∧ w' = w.alloc (.cells #[.int .i64 n] 2) := by
  refine Calls.post fun Φ HΦ => ?_
  go_enter Tryz.func28, Tryz.ntmps28
  go_wp2_with fail
  exact HΦ.out _ _ ⟨rfl, rfl⟩
def okRate (r : Int) : Bool := !bad 1000000 r
def shareS (a r : Int) : Int × Int := if amts [a] && okRate r then (a * r / 1000000, 0) else (0, 2)
theorem amts_one (a : Int) : amts [a] = !bad maxAmt a := by simp [amts]
theorem rate_one (r : Int) : (![r].any (bad 1000000)) = okRate r := by simp [okRate]
theorem okRate_iff {r : Int} (h : okRate r = true) : 0 ≤ r ∧ r ≤ 1000000 := by simp [okRate, bad] at h; omega
theorem okAmt_iff {a : Int} (h : amts [a] = true) : 0 ≤ a ∧ a ≤ 1125899906842624 := by simp [amts, bad, maxAmt] at h; omega
theorem share_nat (a r : Nat) (ha : a ≤ 1125899906842624) (hr : r ≤ 1000000) : a * r ≤ 1125899906842624000000 := Nat.mul_le_mul ha hr
theorem share_split (a r : Nat) : a / 1000000 * r + a % 1000000 * r / 1000000 = a * r / 1000000 := by
  have h : a * r = 1000000 * (a / 1000000 * r) + a % 1000000 * r := by
    conv => lhs; rw [← Nat.div_add_mod a 1000000]
    rw [Nat.add_mul, Nat.mul_assoc]
  rw [h]
  omega
set_option maxRecDepth 100000 in
theorem share_any (a r : Int) (w : World) :
    Calls Tryz.prog 15 #[.int .i64 a, .int .i64 r] w fun e w' => e = .returned (.tuple #[.int .i64 (shareS a r).1, .int .i64 (shareS a r).2]) ∧ Below w.heap.size w w' := by
  refine Calls.post fun Φ HΦ => ?_
  have hL0 := (Later.refl w).alloc (.cells #[.int .i64 a] 2)
  have hck := check_any (some ⟨w.heap.size, 0, none⟩) 1 1 [a] _ rfl (by omega) (rd1Z a w)
  have hin := fun W => in_any 1000000 (some ⟨World.heap W |>.size, 0, none⟩) 1 1 [r] _ rfl (by omega) (rd1Z r W)
  simp only [rate_one] at hin
  cases ha : amts [a] with
  | false =>
    rw [ha] at hck
    have hS : shareS a r = (0, 2) := by simp [shareS, ha]
    rw [hS] at HΦ
    clear hin
    go_enter Tryz.func15, Tryz.ntmps15
    go_wp2_with (first
      | (refine wpList_buildSl rfl 33 1 _ rfl #[(0, .int .i64 a)] rfl (build1Z a _) ?_)
      | (go_at_call 24; refine hck.mono ?_; clear hck; rintro e w1 ⟨rfl, hL1⟩)
      | fail)
    exact HΦ.out _ _ ⟨rfl, hL0.step hL1⟩
  | true =>
    rw [ha] at hck
    cases hr : okRate r with
    | false =>
      simp only [hr] at hin
      have hS : shareS a r = (0, 2) := by simp [shareS, ha, hr]
      rw [hS] at HΦ
      go_enter Tryz.func15, Tryz.ntmps15
      go_wp2_with (first
        | (refine wpList_buildSl rfl 33 1 _ rfl #[(0, .int .i64 _)] rfl (build1Z _ _) ?_)
        | (go_at_call 24; refine hck.mono ?_; clear hck; rintro e w1 ⟨rfl, hL1⟩)
        | (go_at_call 27; refine (hin _).mono ?_; clear hin; rintro e w2 ⟨rfl, hL2⟩)
        | fail)
      exact HΦ.out _ _ ⟨rfl, ((hL0.step hL1).step ((Later.refl w1).alloc _)).step hL2⟩
    | true =>
      simp only [hr] at hin
      have h1 := okAmt_iff ha
      have h2 := okRate_iff hr
      obtain ⟨n, rfl⟩ := Int.eq_ofNat_of_zero_le h1.1
      obtain ⟨k, rfl⟩ := Int.eq_ofNat_of_zero_le h2.1
      have hn : n ≤ 1125899906842624 := by omega
      have hk : k ≤ 1000000 := by omega
      have hnk := share_nat n k hn hk
      have hS : shareS n k = (((n * k / 1000000 : Nat) : Int), 0) := by simp [shareS, ha, hr]
      rw [hS] at HΦ
      have hof := fun W => of1_any (World.heap W |>.size) n k (W.alloc (.cells #[.int .i64 (n : Int)] 2)) (((Row.new W 2 #[.int .i64 (n : Int)]).cell 0).trans rfl) (by omega) (by omega) (by omega) (by omega)
      have c1 : IntKind.u64.wrap (k : Int) = (k : Int) := by rw [IntKind.wrap_u64]; omega
      clear h1 h2 hnk hn hk ha hr hS
      go_enter Tryz.func15, Tryz.ntmps15
      go_wp2_with (first
        | (refine wpList_buildSl rfl 33 1 _ rfl #[(0, .int .i64 _)] rfl (build1Z _ _) ?_)
        | (go_at_call 24; refine hck.mono ?_; clear hck; rintro e w1 ⟨rfl, hL1⟩)
        | (go_at_call 27; refine (hin _).mono ?_; clear hin; rintro e w2 ⟨rfl, hL2⟩)
        | (go_at_call 28; refine (of_any _ _).mono ?_; rintro e w3 ⟨rfl, rfl⟩)
        | (go_at_call 39; refine (hof _).mono ?_; clear hof; rintro e w4 ⟨rfl, hL4⟩)
        | fail)
      exact HΦ.out _ _ ⟨rfl, ((((hL0.step hL1).step ((Later.refl w1).alloc _)).step hL2).step ((Later.refl w2).alloc _)).step hL4⟩
theorem rate5_any (r : Int) (w : World) : Calls Tryz.prog 29 #[.int .i64 r] w fun e w' => e = .returned (.bool (okRate r)) ∧ w = w' := by
  refine Calls.post fun Φ HΦ => ?_
  by_cases h : 0 ≤ r
  · have e1 : decide (0 ≤ r) = true := decide_eq_true h
    have e2 : okRate r = decide (r ≤ 1000000) := by
      have h0 : decide (r < 0) = false := decide_eq_false (by omega)
      by_cases h' : r ≤ 1000000
      · have h1 : decide (1000000 < r) = false := decide_eq_false (by omega)
        simp only [okRate, bad, h0, h1, decide_eq_true h', Bool.or_self, Bool.not_false]
      · have h1 : decide (1000000 < r) = true := decide_eq_true (by omega)
        simp only [okRate, bad, h0, h1, decide_eq_false h', Bool.or_true, Bool.not_true]
    rw [e2] at HΦ
    go_enter Tryz.func29, Tryz.ntmps29
    go_wp2_with fail
    exact HΦ.out _ _ ⟨rfl, rfl⟩
  · have e1 : decide (0 ≤ r) = false := decide_eq_false h
    have e2 : okRate r = false := by
      have : decide (r < 0) = true := decide_eq_true (by omega)
      simp [okRate, bad, this]
    rw [e2] at HΦ
    go_enter Tryz.func29, Tryz.ntmps29
    go_wp2_with fail
    exact HΦ.out _ _ ⟨rfl, rfl⟩
set_option maxRecDepth 100000 in
theorem refShare_any (a r : Int) (w : World) :
    Calls Tryz.prog 19 #[.int .i64 a, .int .i64 r] w fun e w' => e = .returned (.tuple #[.int .i64 (shareS a r).1, .int .i64 (shareS a r).2]) ∧ w = w' := by
  refine Calls.post fun Φ HΦ => ?_
  have hra := right5_any a w
  have hrr := rate5_any r w
  rw [← amts_one a] at hra
  cases ha : amts [a] with
  | false =>
    rw [ha] at hra
    have hS : shareS a r = (0, 2) := by simp [shareS, ha]
    rw [hS] at HΦ
    go_enter Tryz.func19, Tryz.ntmps19
    go_wp2_with (first
      | (go_at_call 18; refine hra.mono ?_; clear hra; rintro e w1 ⟨rfl, rfl⟩)
      | fail)
    exact HΦ.out _ _ ⟨rfl, rfl⟩
  | true =>
    rw [ha] at hra
    cases hr : okRate r with
    | false =>
      rw [hr] at hrr
      have hS : shareS a r = (0, 2) := by simp [shareS, ha, hr]
      rw [hS] at HΦ
      go_enter Tryz.func19, Tryz.ntmps19
      go_wp2_with (first
        | (go_at_call 18; refine hra.mono ?_; clear hra; rintro e w1 ⟨rfl, rfl⟩)
        | (go_at_call 29; refine hrr.mono ?_; clear hrr; rintro e w1 ⟨rfl, rfl⟩)
        | fail)
      exact HΦ.out _ _ ⟨rfl, rfl⟩
    | true =>
      rw [hr] at hrr
      have h1 := okAmt_iff ha
      have h2 := okRate_iff hr
      obtain ⟨n, rfl⟩ := Int.eq_ofNat_of_zero_le h1.1
      obtain ⟨k, rfl⟩ := Int.eq_ofNat_of_zero_le h2.1
      have hn : n ≤ 1125899906842624 := by omega
      have hk : k ≤ 1000000 := by omega
      have hS : shareS n k = (((n * k / 1000000 : Nat) : Int), 0) := by simp [shareS, ha, hr]
      rw [hS, ← share_split n k] at HΦ
      have b1 : n / 1000000 * k ≤ 1125899906 * 1000000 := Nat.mul_le_mul (by omega) hk
      have b2 : n % 1000000 * k ≤ 1000000 * 1000000 := Nat.mul_le_mul (by omega) hk
      obtain ⟨q, hq⟩ : ∃ q, n / 1000000 = q := ⟨_, rfl⟩
      obtain ⟨m, hm⟩ : ∃ m, n % 1000000 = m := ⟨_, rfl⟩
      have d1 : (n : Int) / 1000000 = (q : Int) := by omega
      have d2 : (n : Int) % 1000000 = (m : Int) := by omega
      rw [hq] at b1 HΦ
      rw [hm] at b2 HΦ
      obtain ⟨X, hX⟩ : ∃ X, q * k = X := ⟨_, rfl⟩
      obtain ⟨Y, hY⟩ : ∃ Y, m * k = Y := ⟨_, rfl⟩
      have d3 : (q : Int) * (k : Int) = (X : Int) := by rw [← hX]; exact (Int.natCast_mul _ _).symm
      have d4 : (m : Int) * (k : Int) = (Y : Int) := by rw [← hY]; exact (Int.natCast_mul _ _).symm
      rw [hX] at b1 HΦ
      rw [hY] at b2 HΦ
      clear h1 h2 ha hr hS hq hm hX hY
      have h0 : (0 : Int) ≤ (n : Int) := by omega
      go_enter Tryz.func19, Tryz.ntmps19
      go_wp2_with (first
        | (go_at_call 18; refine hra.mono ?_; clear hra; rintro e w1 ⟨rfl, rfl⟩)
        | (go_at_call 29; refine hrr.mono ?_; clear hrr; rintro e w1 ⟨rfl, rfl⟩)
        | fail)
      exact HΦ.out _ _ ⟨rfl, rfl⟩
end Go.Proofs.YtcfhhljjknmniaaGreatDoor
namespace Go.Proofs.YtcfhhljjknmniaaGreatDoor
open Go.RowKit
abbrev feeV (b r : Int) : Value := .agg #[.int .i64 b, .int .i64 r]
theorem amt_one (a : Int) : (![a].any (bad 1125899906842624)) = amts [a] := by simp [amts, maxAmt]
theorem rd1Z1 (b : Int) (w : World) (o : Obj) : RdV ((w.alloc o).alloc (.cells #[.int .i64 b] 2)) (some ⟨w.heap.size + 1, 0, none⟩) ([b].map numV) := by
  have := rd1Z b (w.alloc o)
  rwa [World.size_alloc] at this
theorem cell_later {w w' : World} {p : Addr} {v : Value} (h : w.cell? p = some v) (hL : Later w w') : w'.cell? p = some v := (World.cell?_of_block (hL.block _ (block_lt_of_cell h))).trans h
set_option maxRecDepth 100000 in
theorem right_any (b r : Int) (w : World) :
    Calls Tryz.prog 14 #[feeV b r] w fun e w' => e = .returned (.bool (amts [b] && okRate r)) ∧ Below w.heap.size w w' := by
  refine Calls.post fun Φ HΦ => ?_
  have hL0 := ((Later.refl w).alloc (.cells #[.int .i64 b, .int .i64 r] 41)).alloc (.cells #[.int .i64 b] 2)
  have hib := in_any 1125899906842624 (some ⟨w.heap.size + 1, 0, none⟩) 1 1 [b] _ rfl (by omega) (rd1Z1 b w (.cells #[.int .i64 b, .int .i64 r] 41))
  simp only [amt_one] at hib
  have hin := fun W => in_any 1000000 (some ⟨World.heap W |>.size, 0, none⟩) 1 1 [r] _ rfl (by omega) (rd1Z r W)
  simp only [rate_one] at hin
  have hrow : Row ((w.alloc (.cells #[.int .i64 b, .int .i64 r] 41)).alloc (.cells #[.int .i64 b] 2)) w.heap.size 41 #[.int .i64 b, .int .i64 r] := (Row.new w 41 _).alloc _
  cases ha : amts [b] with
  | false =>
    simp only [ha] at hib
    rw [ha, Bool.false_and] at HΦ
    clear hin hrow
    go_enter Tryz.func14, Tryz.ntmps14
    go_wp2_with (first
      | (refine wpList_buildSl rfl 33 1 _ rfl #[(0, .int .i64 _)] rfl (build1Z _ _) ?_)
      | (go_at_call 27; refine hib.mono ?_; clear hib; rintro e w1 ⟨rfl, hL1⟩)
      | fail)
    exact HΦ.out _ _ ⟨rfl, hL0.step hL1⟩
  | true =>
    simp only [ha] at hib
    rw [ha, Bool.true_and] at HΦ
    go_enter Tryz.func14, Tryz.ntmps14
    go_wp2_with (first
      | (refine wpList_buildSl rfl 33 1 _ rfl #[(0, .int .i64 _)] rfl (build1Z _ _) ?_)
      | (go_at_call 27; refine hib.mono ?_; clear hib; rintro e w1 ⟨rfl, hL1⟩; have hc1 : w1.cell? ⟨w.heap.size, 1, none⟩ = some (.int .i64 r) := cell_later ((hrow.cell 1).trans rfl) hL1; clear hrow)
      | (go_at_call 27; refine (hin _).mono ?_; clear hin; rintro e w2 ⟨rfl, hL2⟩)
      | fail)
    exact HΦ.out _ _ ⟨rfl, ((hL0.step hL1).step ((Later.refl w1).alloc _)).step hL2⟩
def takeS (b r a : Int) : Int × Int :=
  if amts [b] && okRate r then (if (shareS a r).2 = 0 then addS [b, (shareS a r).1] else (0, (shareS a r).2)) else (0, 2)
def sendS (b r a : Int) : Int × Int := if (takeS b r a).2 = 0 then addS [a, (takeS b r a).1] else (0, (takeS b r a).2)
theorem rd2Z1 (x y : Int) (w : World) (o : Obj) : RdV ((w.alloc o).alloc (.cells #[.int .i64 x, .int .i64 y] 2)) (some ⟨w.heap.size + 1, 0, none⟩) ([x, y].map numV) := by
  have := rd2Z x y (w.alloc o)
  rwa [World.size_alloc] at this
set_option maxRecDepth 100000 in
theorem take_fee (b r a : Int) (w : World) :
    Calls Tryz.prog 5 #[feeV b r, .int .i64 a] w fun e w' => e = .returned (.tuple #[.int .i64 (takeS b r a).1, .int .i64 (takeS b r a).2]) ∧ Below w.heap.size w w' := by
  refine Calls.post fun Φ HΦ => ?_
  have hL0 := ((Later.refl w).alloc (.cells #[.int .i64 b, .int .i64 r] 23)).alloc (.cells #[.int .i64 b, .int .i64 r] 41)
  cases ha : amts [b] && okRate r with
  | false =>
    have hS : takeS b r a = (0, 2) := by unfold takeS; rw [ha]; rfl
    rw [hS] at HΦ
    have hr := fun W => right_any b r W
    simp only [ha] at hr
    go_enter Tryz.func5, Tryz.ntmps5
    go_wp2_with (first
      | (go_at_call 14; refine (hr _).mono ?_; clear hr; rintro e w1 ⟨rfl, hL1⟩)
      | fail)
    exact HΦ.out _ _ ⟨rfl, hL0.step hL1⟩
  | true =>
    have hr := fun W => right_any b r W
    simp only [ha] at hr
    have hrow : Row ((w.alloc (.cells #[.int .i64 b, .int .i64 r] 23)).alloc (.cells #[.int .i64 b, .int .i64 r] 41)) (w.heap.size + 1) 41 #[.int .i64 b, .int .i64 r] := by
      have := Row.new (w.alloc (.cells #[.int .i64 b, .int .i64 r] 23)) 41 #[.int .i64 b, .int .i64 r]
      rwa [World.size_alloc] at this
    have hsh := fun W => share_any a r W
    have hok : okRate r = true := by rw [Bool.and_eq_true] at ha; exact ha.2
    cases hm : amts [a] with
    | false =>
      have hs : shareS a r = (0, 2) := by simp [shareS, hm]
      have hS : takeS b r a = (0, 2) := by unfold takeS; rw [ha, hs]; rfl
      rw [hS] at HΦ
      simp only [hs] at hsh
      clear hok ha hs hm
      go_enter Tryz.func5, Tryz.ntmps5
      go_wp2_with (first
        | (go_at_call 14; refine (hr _).mono ?_; clear hr; rintro e w1 ⟨rfl, hL1⟩; have hc1 : w1.cell? ⟨w.heap.size + 1, 1, none⟩ = some (.int .i64 r) := cell_later ((hrow.cell 1).trans rfl) hL1; have hL2 := hL0.step hL1; clear hrow hL1)
        | (go_at_call 15; refine (hsh _).mono ?_; clear hsh; rintro e w2 ⟨rfl, hL3⟩)
        | fail)
      exact HΦ.out _ _ ⟨rfl, hL2.step hL3⟩
    | true =>
      obtain ⟨s, hs'⟩ : ∃ s, a * r / 1000000 = s := ⟨_, rfl⟩
      have hs : shareS a r = (s, 0) := by simp [shareS, hm, hok, hs']
      have hS : takeS b r a = addS [b, s] := by unfold takeS; rw [ha, hs]; rfl
      rw [hS] at HΦ
      simp only [hs] at hsh
      have hadd := fun W => add_any (some ⟨World.heap W |>.size, 0, none⟩) 2 2 [b, s] _ rfl (by omega) (rd2Z b s W)
      obtain ⟨q, hq⟩ : ∃ q, addS [b, s] = q := ⟨_, rfl⟩
      obtain ⟨q1, q2⟩ := q
      simp only [hq] at hadd
      rw [hq] at HΦ
      clear hok ha hs hm hq hs'
      go_enter Tryz.func5, Tryz.ntmps5
      go_wp2_with (first
        | (refine wpList_buildSl rfl 33 2 _ rfl #[(0, .int .i64 _), (1, .int .i64 _)] rfl (build2Z _ _ _) ?_)
        | (go_at_call 14; refine (hr _).mono ?_; clear hr; rintro e w1 ⟨rfl, hL1⟩; have hc1 : w1.cell? ⟨w.heap.size + 1, 1, none⟩ = some (.int .i64 r) := cell_later ((hrow.cell 1).trans rfl) hL1; have hc0 : w1.cell? ⟨w.heap.size + 1, 0, none⟩ = some (.int .i64 b) := cell_later ((hrow.cell 0).trans rfl) hL1; have hL2 := hL0.step hL1; clear hrow hL1)
        | (go_at_call 15; refine (hsh _).mono ?_; clear hsh; rintro e w2 ⟨rfl, hL3⟩; have hd0 : w2.cell? ⟨w.heap.size + 1, 0, none⟩ = some (.int .i64 b) := cell_later hc0 hL3; clear hc0)
        | (go_at_call 16; refine (hadd _).mono ?_; clear hadd; rintro e w3 ⟨rfl, hL4⟩)
        | fail)
      exact HΦ.out _ _ ⟨rfl, ((hL2.step hL3).step ((Later.refl w2).alloc _)).step hL4⟩
set_option maxRecDepth 100000 in
theorem send_fee (b r a : Int) (w : World) :
    Calls Tryz.prog 6 #[feeV b r, .int .i64 a] w fun e w' => e = .returned (.tuple #[.int .i64 (sendS b r a).1, .int .i64 (sendS b r a).2]) ∧ Below w.heap.size w w' := by
  refine Calls.post fun Φ HΦ => ?_
  have hL0 := (Later.refl w).alloc (.cells #[.int .i64 b, .int .i64 r] 23)
  have htk := fun W => take_fee b r a W
  obtain ⟨t, ht⟩ : ∃ t, takeS b r a = t := ⟨_, rfl⟩
  obtain ⟨t1, t2⟩ := t
  simp only [ht] at htk
  by_cases h0 : t2 = 0
  · subst h0
    have hS : sendS b r a = addS [a, t1] := by unfold sendS; rw [ht]; rfl
    rw [hS] at HΦ
    have hadd := fun W => add_any (some ⟨World.heap W |>.size, 0, none⟩) 2 2 [a, t1] _ rfl (by omega) (rd2Z a t1 W)
    obtain ⟨q, hq⟩ : ∃ q, addS [a, t1] = q := ⟨_, rfl⟩
    obtain ⟨q1, q2⟩ := q
    simp only [hq] at hadd
    rw [hq] at HΦ
    clear ht hS hq
    go_enter Tryz.func6, Tryz.ntmps6
    go_wp2_with (first
      | (refine wpList_buildSl rfl 33 2 _ rfl #[(0, .int .i64 _), (1, .int .i64 _)] rfl (build2Z _ _ _) ?_)
      | (go_at_call 5; refine (htk _).mono ?_; clear htk; rintro e w1 ⟨rfl, hL1⟩)
      | (go_at_call 16; refine (hadd _).mono ?_; clear hadd; rintro e w3 ⟨rfl, hL4⟩)
      | fail)
    exact HΦ.out _ _ ⟨rfl, ((hL0.step hL1).step ((Later.refl w1).alloc _)).step hL4⟩
  · have hS : sendS b r a = (0, t2) := by unfold sendS; rw [ht, if_neg h0]
    rw [hS] at HΦ
    have e1 : (t2 != 0) = true := by simpa using h0
    clear ht hS
    go_enter Tryz.func6, Tryz.ntmps6
    go_wp2_with (first
      | (go_at_call 5; refine (htk _).mono ?_; clear htk; rintro e w1 ⟨rfl, hL1⟩)
      | fail)
    exact HΦ.out _ _ ⟨rfl, hL0.step hL1⟩
end Go.Proofs.YtcfhhljjknmniaaGreatDoor
namespace Go.Proofs.YtcfhhljjknmniaaGreatDoor
open Go.RowKit
abbrev Fee1 := Int × Int
def feesC : List Fee1 → List Value
  | [] => []
  | f :: fs => numV f.1 :: numV f.2 :: feesC fs
theorem feesC_len : ∀ fs : List Fee1, (feesC fs).length = fs.length * 2
  | [] => rfl
  | f :: fs => by
    have := feesC_len fs
    simp only [feesC, List.length_cons, this]
    omega
theorem feesC_at : ∀ (fs : List Fee1) (k : Nat) (h : k < fs.length), (feesC fs)[k * 2]? = some (numV fs[k].1) ∧ (feesC fs)[k * 2 + 1]? = some (numV fs[k].2)
  | f :: fs, 0, _ => ⟨rfl, rfl⟩
  | f :: fs, k + 1, h => by
    have ih := feesC_at fs k (by simpa using h)
    have e1 : (k + 1) * 2 = k * 2 + 1 + 1 := by omega
    have e2 : (k + 1) * 2 + 1 = k * 2 + 1 + 1 + 1 := by omega
    rw [e2, e1]
    exact ih
theorem fees_at {w : World} {A : Option Addr} {fs : List Fee1} (h : RdV w A (feesC fs)) {k : Nat} (hk : k < fs.length) : ∃ b o, A = some ⟨b, o, none⟩ ∧ w.cell? ⟨b, o + k * 2, none⟩ = some (numV fs[k].1) ∧ w.cell? ⟨b, o + k * 2 + 1, none⟩ = some (numV fs[k].2) := by
  have hl := feesC_len fs
  obtain ⟨b, o, e, hc⟩ := h (by intro e; rw [e] at hl; simp at hl; omega)
  obtain ⟨h1, h2⟩ := feesC_at fs k hk
  refine ⟨b, o, e, ?_, ?_⟩
  · rw [hc (k * 2) (by omega), ← List.getElem?_eq_getElem, h1]
  · rw [Nat.add_assoc, hc (k * 2 + 1) (by omega), ← List.getElem?_eq_getElem, h2]
theorem infoFee : (Tryz.prog.info? 23).map (·.size) = some 2 := by kernel_rfl
theorem run_load_fee {w : World} {b o : Nat} {x y : Int} (h0 : w.cell? ⟨b, o, none⟩ = some (numV x)) (h1 : w.cell? ⟨b, o + 1, none⟩ = some (numV y)) : (Instr.loadAt 23 (.pointer (some ⟨b, o, none⟩))).run Tryz.prog w = .ok (feeV x y) w :=
  run_loadAt_mid (P := Tryz.prog) w b o 23 [numV x, numV y] _ (fun j v e => by
    match j, e with
    | 0, e => cases e; exact h0
    | 1, e => cases e; exact h1) Tryz.underlying23 rfl infoFee
def rightF (f : Fee1) : Bool := amts [f.1] && okRate f.2
set_option maxRecDepth 100000 in
theorem route1_any (f : Fee1) (w : World) :
    Calls Tryz.prog 26 #[feeV f.1 f.2] w fun e w' => e = .returned (.bool (!rightF f)) ∧ Later w w' := by
  refine Calls.post fun Φ HΦ => ?_
  have hL0 := (Later.refl w).alloc (.cells #[.int .i64 f.1, .int .i64 f.2] 23)
  have hr := fun W => right_any f.1 f.2 W
  obtain ⟨b, r⟩ := f
  unfold rightF at HΦ
  cases hb : amts [b] && okRate r with
  | false =>
    simp only [hb] at hr HΦ
    go_enter Tryz.func26, Tryz.ntmps26
    go_wp2_with (first
      | (go_at_call 14; refine (hr _).mono ?_; clear hr; rintro e w1 ⟨rfl, hL1⟩)
      | fail)
    exact HΦ.out _ _ ⟨rfl, hL0.step hL1⟩
  | true =>
    simp only [hb] at hr HΦ
    go_enter Tryz.func26, Tryz.ntmps26
    go_wp2_with (first
      | (go_at_call 14; refine (hr _).mono ?_; clear hr; rintro e w1 ⟨rfl, hL1⟩)
      | fail)
    exact HΦ.out _ _ ⟨rfl, hL0.step hL1⟩
set_option maxRecDepth 100000 in
theorem idxFee_any (A : Option Addr) (n c : Nat) (fs : List Fee1) (w : World) (hn : fs.length = n) (hm : n ≤ 9223372036854775807) (hr : RdV w A (feesC fs)) :
    Calls Tryz.prog 36 #[.slice A n c, .func (.func 26) #[] #[]] w fun e w' => (∃ k : Int, e = .returned (.int .i64 k) ∧ decide (0 ≤ k) = fs.any (fun f => !rightF f)) ∧ Later w w' := by
  refine Calls.post fun Φ HΦ => ?_
  have HN := Lib.hid hn
  clear hn
  go_enter Tryz.func36, Tryz.ntmps36
  go_wp2_with fail
  go_loopw [8] (fun t wr => ∃ k : Nat, k ≤ n ∧ t = .int .i64 k ∧ Later w wr ∧ (fs.take k).any (fun f => !rightF f) = false) (fun t _ => n - (intOf t).toNat)
  case atStart => exact ⟨0, by omega, rfl, Later.refl _, by simp⟩
  case round =>
    obtain ⟨k, hk, rfl, hL, hany⟩ := hrel
    by_cases hlt : k < n
    · have hd : decide ((k : Int) < (n : Int)) = true := decide_eq_true (by omega)
      have hd' : decide (k < n) = true := decide_eq_true hlt
      have hkl : k < fs.length := by rw [HN.out]; exact hlt
      obtain ⟨b, o, rfl, hc0, hc1⟩ := fees_at (hr.later hL) hkl
      obtain ⟨f, hf⟩ : ∃ f, fs[k] = f := ⟨_, rfl⟩
      have htk := take_any (p := fun f => !rightF f) hkl
      rw [hany, hf, Bool.false_or] at htk
      rw [hf] at hc0 hc1
      have hld := run_load_fee hc0 hc1
      have hcl := fun W => route1_any f W
      cases hb : rightF f with
      | false =>
        simp only [hb] at htk hcl
        have hyes := any_take htk
        clear hany htk hf
        go_wp2_with (first
          | (go_at_call 26; refine (hcl _).mono ?_; rintro e w' ⟨rfl, hL1⟩)
          | fail)
        exact HΦ.out _ _ ⟨⟨k, rfl, by rw [hyes]; exact decide_eq_true (by omega)⟩, hL.step hL1⟩
      | true =>
        simp only [hb] at htk hcl
        clear hany hf
        go_wp2_with (first
          | (go_at_call 26; refine (hcl _).mono ?_; rintro e w' ⟨rfl, hL1⟩)
          | fail)
        go_roundw
        case rel => exact ⟨k + 1, by omega, by go_num, hL.step hL1, htk⟩
        case measure => simp [intOf]; omega
    · obtain rfl : k = n := by omega
      have hd : decide ((k : Int) < (k : Int)) = false := decide_eq_false (by omega)
      have hd' : decide (k < k) = false := decide_eq_false (by omega)
      rw [List.take_of_length_le (by rw [HN.out]; exact Nat.le_refl _)] at hany
      go_wp2_with fail
      exact HΦ.out _ _ ⟨⟨-1, rfl, by rw [hany]; rfl⟩, hL⟩
theorem containsFee_any (A : Option Addr) (n c : Nat) (fs : List Fee1) (w : World) (hn : fs.length = n) (hm : n ≤ 9223372036854775807) (hr : RdV w A (feesC fs)) :
    Calls Tryz.prog 25 #[.slice A n c, .func (.func 26) #[] #[]] w fun e w' => e = .returned (.bool (fs.any (fun f => !rightF f))) ∧ Later w w' := by
  have hi := idxFee_any A n c fs w hn hm hr
  go_enter Tryz.func25, Tryz.ntmps25
  go_wp2_with (first
    | (go_at_call 36; refine hi.mono ?_; clear hi; rintro e w' ⟨⟨k, rfl, hk⟩, hL⟩)
    | fail)
  go_ret
  exact ⟨by rw [← hk]; rfl, hL⟩
def routeFrom (a : Int) : List Fee1 → List Int × Int
  | [] => ([a], 0)
  | f :: fs => if (routeFrom a fs).2 = 0 then (if (sendS f.1 f.2 ((routeFrom a fs).1.headD 0)).2 = 0 then ((sendS f.1 f.2 ((routeFrom a fs).1.headD 0)).1 :: (routeFrom a fs).1, 0) else ([], (sendS f.1 f.2 ((routeFrom a fs).1.headD 0)).2)) else ([], (routeFrom a fs).2)
def routeS (a : Int) (fs : List Fee1) : List Int × Int := if amts [a] && !fs.any (fun f => !rightF f) then routeFrom a fs else ([], 2)
theorem routeFrom_err {a e : Int} (he : e ≠ 0) : ∀ (fs : List Fee1) (j : Nat), j ≤ fs.length → routeFrom a (fs.drop j) = ([], e) → routeFrom a fs = ([], e)
  | _, 0, _, h => h
  | [], j + 1, h, _ => absurd h (by simp)
  | f :: fs, j + 1, h, hr => by
    have := routeFrom_err he fs j (by simpa using h) hr
    simp [routeFrom, this, he]
theorem routeFrom_cons {a : Int} {fs : List Fee1} {i : Nat} (hi : i < fs.length) {x y : Int} {l : List Int} (h : routeFrom a (fs.drop (i + 1)) = (x :: l, 0)) (hs : sendS fs[i].1 fs[i].2 x = (y, 0)) : routeFrom a (fs.drop i) = (y :: x :: l, 0) := by
  rw [List.drop_eq_getElem_cons hi, routeFrom]
  simp [h, hs]
theorem routeFrom_bad {a : Int} {fs : List Fee1} {i : Nat} (hi : i < fs.length) {x z e : Int} {l : List Int} (h : routeFrom a (fs.drop (i + 1)) = (x :: l, 0)) (hs : sendS fs[i].1 fs[i].2 x = (z, e)) (he : e ≠ 0) : routeFrom a fs = ([], e) := by
  refine routeFrom_err he fs i (by omega) ?_
  rw [List.drop_eq_getElem_cons hi, routeFrom]
  simp [h, hs, he]
set_option maxRecDepth 100000 in
theorem run_make_ints (n : Nat) (hn : n ≤ 1000000) (w : World) :
    (Instr.makeSlice 33 (.int .i64 (n : Int)) (.int .i64 (n : Int))).run Tryz.prog w = .ok (.slice (some ⟨w.heap.size, 0, none⟩) n n) (w.alloc (.cells ((List.replicate n (0 : Int)).map numV).toArray 2)) := by
  obtain ⟨i, hi0, he⟩ := Option.map_eq_some_iff.1 infoZ
  injection he with hz he
  injection he with hs hb
  have h := run_make (P := Tryz.prog) w 33 2 i _ Tryz.underlying33 hi0 hz .i64 .i64 (n : Int) (n : Int) (by omega) (Int.le_refl _) (by rw [hb]; omega) (by omega)
  rw [h, Int.toNat_natCast, hs]
  congr 3
  apply Array.ext
  · simp [madeCells]
  · intro j h1 h2
    simp [madeCells, Value.cells, Nat.mod_one]
theorem set_last {i : Nat} (y : Int) (l : List Int) : ((((List.replicate (i + 1) (0 : Int)) ++ l).map numV).toArray).setIfInBounds i (numV y) = (((List.replicate i (0 : Int)) ++ y :: l).map numV).toArray := by
  rw [List.setIfInBounds_toArray, List.map_append, List.map_append, List.set_append, List.map_replicate, List.map_replicate]
  rw [if_pos (by simp), List.replicate_succ']
  rw [List.set_append, List.length_replicate, if_neg (by omega), Nat.sub_self]
  simp
theorem idxFee {b o n c i : Nat} (h : i < n) (hn : n ≤ 1000) (W : World) : (Instr.indexAt 32 (.slice (some ⟨b, o, none⟩) n c) (.int .i64 (i : Int))).run Tryz.prog W = .ok (.pointer (some ⟨b, o + i * 2, none⟩)) W := by
  have hd : decide ((i : Int) < (n : Int)) = true := decide_eq_true (by omega)
  have hd' : decide (i < n) = true := decide_eq_true h
  go_simp
theorem idxInt {b o n c i : Nat} (h : i < n) (hn : n ≤ 1001) (W : World) : (Instr.indexAt 33 (.slice (some ⟨b, o, none⟩) n c) (.int .i64 (i : Int))).run Tryz.prog W = .ok (.pointer (some ⟨b, o + i, none⟩)) W := by
  have hd : decide ((i : Int) < (n : Int)) = true := decide_eq_true (by omega)
  have hd' : decide (i < n) = true := decide_eq_true h
  go_simp
theorem loadInt {b o : Nat} {z : Int} {W : World} (hc : W.cell? ⟨b, o, none⟩ = some (numV z)) : (Instr.loadAt 2 (.pointer (some ⟨b, o, none⟩))).run Tryz.prog W = .ok (numV z) W := by
  go_simp
theorem addInt (i : Nat) (h : i ≤ 1000) (T : TypeId) (W : World) : (binOp .add T (.int .i64 (i : Int)) (.int .i64 1)).run Tryz.prog W = .ok (.int .i64 ((i + 1 : Nat) : Int)) W := by
  go_simp
  first | exact IntWalk.i64_in _ (by omega) | (congr 1; exact IntWalk.i64_in _ (by omega))
set_option maxRecDepth 100000 in
theorem route_any (a : Int) (A : Option Addr) (n c : Nat) (fs : List Fee1) (w : World) (hn : fs.length = n) (hm : n ≤ 1000) (hr : RdV w A (feesC fs)) :
    Calls Tryz.prog 11 #[.int .i64 a, .slice A n c] w fun e w' => (∃ v, e = .returned (.tuple #[v, .int .i64 (routeS a fs).2]) ∧ ∃ B c', v = .slice B (routeS a fs).1.length c' ∧ RdV w' B ((routeS a fs).1.map numV)) ∧ Below w.heap.size w w' := by
  refine Calls.post fun Φ HΦ => ?_
  have HN := Lib.hid hn
  have hL0 := (Later.refl w).alloc (.cells #[.int .i64 a] 2)
  have hck := check_any (some ⟨w.heap.size, 0, none⟩) 1 1 [a] _ rfl (by omega) (rd1Z a w)
  have hcf := fun W (h : Later w W) => containsFee_any A n c fs W hn (by omega) (hr.later h)
  clear hn
  cases ha : amts [a] with
  | false =>
    rw [ha] at hck
    have hS : routeS a fs = ([], 2) := by unfold routeS; rw [ha]; rfl
    rw [hS] at HΦ
    clear hcf
    go_enter Tryz.func11, Tryz.ntmps11
    go_wp2_with (first
      | (refine wpList_buildSl rfl 33 1 _ rfl #[(0, .int .i64 _)] rfl (build1Z _ _) ?_)
      | (go_at_call 24; refine hck.mono ?_; clear hck; rintro e w1 ⟨rfl, hL1⟩)
      | fail)
    exact HΦ.out _ _ ⟨⟨_, rfl, none, 0, rfl, RdV.nil _ _⟩, hL0.step hL1⟩
  | true =>
    rw [ha] at hck
    cases hb : fs.any (fun f => !rightF f) with
    | true =>
      rw [hb] at hcf
      have hS : routeS a fs = ([], 2) := by unfold routeS; rw [ha, hb]; rfl
      rw [hS] at HΦ
      go_enter Tryz.func11, Tryz.ntmps11
      go_wp2_with (first
        | (refine wpList_buildSl rfl 33 1 _ rfl #[(0, .int .i64 _)] rfl (build1Z _ _) ?_)
        | (go_at_call 24; refine hck.mono ?_; clear hck; rintro e w1 ⟨rfl, hL1⟩)
        | (go_at_call 25; refine (hcf _ (hL0.step hL1)).mono ?_; rintro e w2 ⟨rfl, hL2⟩)
        | fail)
      exact HΦ.out _ _ ⟨⟨_, rfl, none, 0, rfl, RdV.nil _ _⟩, (hL0.step hL1).step hL2⟩
    | false =>
      rw [hb] at hcf
      have hS : routeS a fs = routeFrom a fs := by unfold routeS; rw [ha, hb]; rfl
      rw [hS] at HΦ
      have hmk := run_make_ints (n + 1) (by omega)
      rw [show (((n + 1 : Nat)) : Int) = (n : Int) + 1 by omega] at hmk
      have hbn : n ≤ 1000 := hm
      clear hS hb ha
      go_enter Tryz.func11, Tryz.ntmps11
      go_upto_region 4 with (first
        | (refine wpList_buildSl rfl 33 1 _ rfl #[(0, .int .i64 _)] rfl (build1Z _ _) ?_)
        | (go_at_call 24; refine hck.mono ?_; clear hck; rintro e w1 ⟨rfl, hL1⟩)
        | (go_at_call 25; refine (hcf _ (hL0.step hL1)).mono ?_; clear hcf; rintro e w2 ⟨rfl, hL2⟩)
        | fail)
      have hL3 := (hL0.step hL1).step hL2
      clear hL0 hL1 hL2 hmk
      have hrow := Row.new w2 2 ((List.replicate (n + 1) (0 : Int)).map numV).toArray
      have hcn := (hrow.cell n).trans (show _ = some (numV 0) by simp)
      have e4 := set_last (i := n) a []
      rw [List.append_nil] at e4
      have e5 : (Array.replicate (n + 1) (numV 0)).setIfInBounds n (.int .i64 a) = ((List.replicate n (0 : Int) ++ a :: []).map numV).toArray := by
        rw [← e4]
        simp
      clear hrow e4
      go_upto_region 5 with fail
      rw [show (List.replicate n (numV 0) ++ [numV a]).toArray = ((List.replicate n (0 : Int) ++ a :: []).map numV).toArray by simp]
      have hrow4 := Row.new w2 2 ((List.replicate n (0 : Int) ++ a :: []).map numV).toArray
      have hL4 := hL3.alloc (.cells ((List.replicate n (0 : Int) ++ a :: []).map numV).toArray 2)
      have hg0 := hL3.size
      obtain ⟨g, hg⟩ : ∃ g, w2.heap.size = g := ⟨_, rfl⟩
      rw [hg] at hrow4 hg0 ⊢
      clear hL3 hcn e5 hg
      generalize w2.alloc (.cells ((List.replicate n (0 : Int) ++ a :: []).map numV).toArray 2) = w3 at *
      have HG0 := Lib.hid hg0
      clear hg0
      go_wp2_with fail
      go_loopw [30] (fun t wr => ∃ (k i : Nat) (x : Int) (l : List Int), i + k = n ∧ t = .int .i64 k ∧ Later w wr ∧ routeFrom a (fs.drop i) = (x :: l, 0) ∧ l.length = k ∧ Row wr g 2 ((List.replicate i (0 : Int) ++ x :: l).map numV).toArray) (fun t _ => n - (intOf t).toNat)
      case atStart => exact ⟨0, n, a, [], by omega, rfl, hL4, by rw [List.drop_of_length_le (by rw [HN.out]; exact Nat.le_refl _)]; rfl, rfl, hrow4⟩
      case round =>
        clear hrow4 hL4
        obtain ⟨k, j, x, l, hjk, rfl, hL, hrf, hll, hrow⟩ := hrel
        by_cases hlt : k < n
        · obtain ⟨i, rfl⟩ : ∃ i, j = i + 1 := ⟨j - 1, by omega⟩
          have hd : decide ((k : Int) < (n : Int)) = true := decide_eq_true (by omega)
          have hd' : decide (k < n) = true := decide_eq_true hlt
          have hi1 : (n : Int) - 1 - (k : Int) = (i : Int) := by omega
          have hin : i < n := by omega
          have hkl : i < fs.length := by rw [HN.out]; exact hin
          obtain ⟨b, o, rfl, hc0, hc1⟩ := fees_at (hr.later hL) hkl
          obtain ⟨f, hf⟩ : ∃ f, fs[i] = f := ⟨_, rfl⟩
          rw [hf] at hc0 hc1
          have hcx : wr.cell? ⟨g, i + 1, none⟩ = some (numV x) := (hrow.cell (i + 1)).trans (by simp)
          have hci : wr.cell? ⟨g, i, none⟩ = some (numV 0) := (hrow.cell i).trans (by rw [List.getElem?_toArray, List.getElem?_map, List.getElem?_append_left (by simp)]; simp)
          have HRF := Lib.hid hrf
          have HLL := Lib.hid hll
          have HJK := Lib.hid hjk
          clear hrf hll hjk
          go_upto_region 9 with fail
          obtain ⟨s, hs⟩ : ∃ s, sendS f.1 f.2 x = s := ⟨_, rfl⟩
          obtain ⟨y, e⟩ := s
          have hsd := fun W => send_fee f.1 f.2 x W
          simp only [hs] at hsd
          have HS := Lib.hid hs
          clear hs
          refine wp_region_list [Pr.eq (.slice (some ⟨b, o, none⟩) n c), Pr.eq (.int .i64 (i : Int)), Pr.eq (.pointer (some ⟨b, o + i * 2, none⟩)), Pr.eq (feeV f.1 f.2), Pr.eq (.slice (some ⟨g, 0, none⟩) (n + 1) (n + 1)), Pr.eq (.int .i64 (i : Int)), Pr.eq (.int .i64 ((i + 1 : Nat) : Int)), Pr.eq (.pointer (some ⟨g, 0 + (i + 1), none⟩)), Pr.eq (numV x), Pr.eq (.tuple #[.int .i64 y, .int .i64 e]), Pr.eq (.tuple #[.int .i64 y, .int .i64 e]), Pr.eq (.int .i64 y), Pr.eq (.int .i64 e), Pr.eq (.int .i64 y), Pr.eq (.int .i64 e)] (by kernel_rfl) (by kernel_rfl) (by kernel_rfl) (by kernel_rfl) ⟨?_, ?_, ?_, ?_, ?_, ?_, ?_, ?_, ?_, ?_, ?_, ?_, ?_, ?_, ?_, trivial⟩ ?_
          · exact fun ac W hL he => stepOk_want rfl (op_move rfl (he.keep (.tmp 1) (by kernel_rfl)))
          · exact fun ac W hL he => stepOk_want rfl (op_move rfl (he.keep (.tmp 8) (by kernel_rfl)))
          · exact fun ac W hL he => stepOk_want rfl (op_idx rfl (he.get 0 39 (by kernel_rfl) rfl) (he.get 1 40 (by kernel_rfl) rfl) (idxFee hin hbn W) rfl)
          · exact fun ac W hL he => stepOk_want rfl (op_load rfl (he.get 2 41 (by kernel_rfl) rfl) (run_load_fee (cell_later hc0 hL) (cell_later hc1 hL)) rfl)
          · exact fun ac W hL he => stepOk_want rfl (op_move rfl (he.keep (.tmp 6) (by kernel_rfl)))
          · exact fun ac W hL he => stepOk_want rfl (op_move rfl (he.keep (.tmp 8) (by kernel_rfl)))
          · exact fun ac W hL he => stepOk_want rfl (op_binOp rfl (he.get 5 44 (by kernel_rfl) rfl) rfl rfl (addInt i (by omega) _ W) rfl)
          · exact fun ac W hL he => stepOk_want rfl (op_idx rfl (he.get 4 43 (by kernel_rfl) rfl) (he.get 6 45 (by kernel_rfl) rfl) (idxInt (by omega) (by omega) W) rfl)
          · exact fun ac W hL he => stepOk_want rfl (op_load rfl (he.get 7 46 (by kernel_rfl) rfl) (loadInt (by rw [Nat.zero_add]; exact cell_later hcx hL)) rfl)
          · intro ac W hL he; refine stepOk_want rfl ?_; have e0 : ac.eval (.tmp 42) = feeV f.1 f.2 := (he.get 3 42 (by kernel_rfl) rfl); have e1 : ac.eval (.tmp 47) = numV x := (he.get 8 47 (by kernel_rfl) rfl); exact op_callF (vs := #[feeV f.1 f.2, numV x]) rfl (by simp only [List.map_toArray, List.map_cons, List.map_nil, e0, e1]) (enters_of Tryz.func6 (by kernel_rfl) rfl) ((hsd W).mono fun e W' ⟨he', hb⟩ => ⟨_, he', hb, rfl⟩)
          · exact fun ac W hL he => stepOk_want rfl (op_move rfl (he.get 9 48 (by kernel_rfl) rfl))
          · exact fun ac W hL he => stepOk_want rfl (op_extract rfl (he.get 10 38 (by kernel_rfl) rfl) rfl rfl)
          · exact fun ac W hL he => stepOk_want rfl (op_extract rfl (he.get 10 38 (by kernel_rfl) rfl) rfl rfl)
          · exact fun ac W hL he => stepOk_want rfl (op_assign rfl (he.get 11 49 (by kernel_rfl) rfl))
          · exact fun ac W hL he => stepOk_want rfl (op_assign rfl (he.get 12 50 (by kernel_rfl) rfl))
          intro xs W hLW hxs
          have h9 : xs 13 = .int .i64 y := hxs 13 (by decide)
          have h10 : xs 14 = .int .i64 e := hxs 14 (by decide)
          clear hxs
          simp only [putL, Nat.reduceAdd, Act.put, List.setIfInBounds_toArray, List.set_cons_succ, List.set_cons_zero, h9, h10]
          clear h9 h10
          have hLW' := hL.step hLW
          have hrowW := hrow.later hLW
          have hci' := cell_later hci hLW
          have hfz := hrowW.frozen i
          have HFF := Lib.hid hf
          clear hsd hc0 hc1 hcx hci hrow hL hLW hf
          by_cases he : e = 0
          · subst he
            go_wp2_with fail
            go_roundw
            case rel =>
              refine ⟨k + 1, i, y, x :: l, by have := HJK.out; omega, by go_num, ?_, ?_, by have := HLL.out; simp; omega, ?_⟩
              · exact Below.setCell hLW' (by exact HG0.out) _
              · have hfk := HRF.out
                have hff := HFF.out
                subst hff
                exact routeFrom_cons hkl hfk HS.out
              · have := hrowW.set i (numV y)
                rwa [set_last] at this
            case measure => simp [intOf]; omega
          · have e1 : (e != 0) = true := by simpa using he
            go_wp2_with fail
            have hR : routeFrom a fs = ([], e) := by
              have hff := HFF.out
              subst hff
              exact routeFrom_bad hkl HRF.out HS.out he
            rw [hR] at HΦ
            exact HΦ.out _ _ ⟨⟨_, rfl, none, 0, rfl, RdV.nil _ _⟩, hLW'⟩
        · obtain rfl : k = n := by omega
          obtain rfl : j = 0 := by omega
          have hd : decide ((k : Int) < (k : Int)) = false := decide_eq_false (by omega)
          have hd' : decide (k < k) = false := decide_eq_false (by omega)
          rw [List.drop_zero] at hrf
          rw [hrf] at HΦ
          have hrd : RdV wr (some ⟨g, 0, none⟩) ((x :: l).map numV) := RdV.row hrow
          have HLL := Lib.hid hll
          clear hrf hrow hll
          go_wp2_with fail
          exact HΦ.out _ _ ⟨⟨_, rfl, some ⟨g, 0, none⟩, k + 1, by rw [List.length_cons, HLL.out], hrd⟩, hL⟩
end Go.Proofs.YtcfhhljjknmniaaGreatDoor
namespace Go.Proofs.YtcfhhljjknmniaaGreatDoor
open Go.RowKit Go.ChangeShapes Go.WideShapes Go.ChangeAt
/-- The table of powers of ten, and that the two errors are errors. -/
structure Tabs (w : World) : Prop where
  pow : Lib.TabIs Tryz.prog w "internal/strconv.uint64pow10" .u64 Lib.pow10Tab
  syn : ∃ tp p, w.var? Tryz.prog "strconv.ErrSyntax" = some #[.iface tp p]
  rng : ∃ tp p, w.var? Tryz.prog "strconv.ErrRange" = some #[.iface tp p]
theorem var_below {P : Program} {n : String} {cs : Array Value} {w w' : World} (h : w.var? P n = some cs) (hb : Below w.heap.size w w') : w'.var? P n = some cs := by
  unfold World.var? at h ⊢
  cases hg : P.globalNamed n with
  | none => rw [hg] at h; cases h
  | some g =>
    rw [hg] at h
    simp only [Option.bind_some] at h ⊢
    have hlt : g < w.heap.size := by
      rcases Nat.lt_or_ge g w.heap.size with h' | h'
      · exact h'
      · rw [Array.getElem?_eq_none h'] at h; cases h
    rw [hb.block g hlt]
    exact h
theorem Tabs.later {w w' : World} (h : Tabs w) (hL : Later w w') : Tabs w' :=
  ⟨var_below h.pow hL, by obtain ⟨a, b, k⟩ := h.syn; exact ⟨a, b, var_below k hL⟩, by obtain ⟨a, b, k⟩ := h.rng; exact ⟨a, b, var_below k hL⟩⟩
theorem laidVars_at {P : Program} {w : World} : ∀ {laid : List (String × DataW Unit)} {ps : List MemPlace}, DataW.LaidVars P w laid ps → ∀ (i : Nat) (n : String) (d : DataW Unit), laid[i]? = some (n, d) →
    ∃ g t cs fuel p, P.globalNamed n = some g ∧ (P.globals[g]?).map (·.type) = some t ∧ w.var? P n = some cs ∧ DataW.trod (fun _ => ()) P w 0 (fun _ => true) false fuel t cs.toList = some (d, p)
  | [], _, _, i, n, d, e => by simp at e
  | (n0, d0) :: r, ps, h, i, n, d, e => by
    obtain ⟨g, t, cs, fuel, p, q, h1, h2, h3, h4, h5, h6⟩ := h
    match i, e with
    | 0, e => cases e; exact ⟨g, t, cs, fuel, p, h1, h2, h3, h4⟩
    | i + 1, e => exact laidVars_at h5 i n d (by simpa using e)
theorem errVar_of {P : Program} {w : World} {laid : List (String × DataW Unit)} {ps : List MemPlace} (h : DataW.LaidVars P w laid ps) (i : Nat) {n : String} (hi : ∃ nm d, laid[i]? = some (n, .iface nm d)) {g0 : Nat} {t0 : TypeId} {ms : Array (String × TypeId)}
    (hg : P.globalNamed n = some g0) (hty : (P.globals[g0]?).map (·.type) = some t0) (ht : P.underlying t0 = some (.interface ms)) : ∃ tp p, w.var? P n = some #[.iface tp p] := by
  obtain ⟨nm, d, hi⟩ := hi
  obtain ⟨g, t, cs, fuel, p, h1, h2, h3, h4⟩ := laidVars_at h i n _ hi
  obtain rfl := Option.some.inj (hg.symm.trans h1)
  obtain rfl := Option.some.inj (hty.symm.trans h2)
  obtain ⟨_, u, v, hcs, _⟩ := iface_of_trod ht h4
  refine ⟨u, v, ?_⟩
  rw [h3]
  congr 1
  apply Array.ext'
  exact hcs
theorem tab_of {P : Program} {w : World} {laid : List (String × DataW Unit)} {ps : List MemPlace} (h : DataW.LaidVars P w laid ps) (i : Nat) {n : String} {k : IntKind} {zs : List Int} (hi : laid[i]? = some (n, Lib.tabData k zs)) {g0 : Nat} {t0 e : TypeId} {m : Nat}
    (hg : P.globalNamed n = some g0) (hty : (P.globals[g0]?).map (·.type) = some t0) (ht : P.underlying t0 = some (.array m e)) (he : P.underlying e = some (.int k)) (hce : P.cellsOf e = 1) (hct : P.cellsOf t0 = m) : Lib.TabIs P w n k zs := by
  obtain ⟨g, t, cs, fuel, p, h1, h2, h3, h4⟩ := laidVars_at h i n _ hi
  obtain rfl := Option.some.inj (hg.symm.trans h1)
  obtain rfl := Option.some.inj (hty.symm.trans h2)
  unfold Lib.TabIs
  rw [h3, ← Lib.cells_of_tab ht he hce hct h4]
theorem tabs_of {W : World} (h : laidMetH Tryz.prog Rows.moneyFeesRow.laid W) : Tabs W := by
  rw [MakeChecks.laidMetH_plain _ _ _ (by kernel_rfl)] at h
  obtain ⟨ps, h, _⟩ := h
  exact ⟨tab_of h 2 (by kernel_rfl) (show Tryz.prog.globalNamed "internal/strconv.uint64pow10" = some 2 by kernel_rfl) (by kernel_rfl) Tryz.underlying118 Tryz.underlying57 (by kernel_rfl) (by kernel_rfl),
    errVar_of h 5 ⟨_, _, rfl⟩ (show Tryz.prog.globalNamed "strconv.ErrSyntax" = some 4 by kernel_rfl) (by kernel_rfl) Tryz.underlying65,
    errVar_of h 4 ⟨_, _, rfl⟩ (show Tryz.prog.globalNamed "strconv.ErrRange" = some 5 by kernel_rfl) (by kernel_rfl) Tryz.underlying65⟩
end Go.Proofs.YtcfhhljjknmniaaGreatDoor
namespace Go.Proofs.YtcfhhljjknmniaaGreatDoor
open Go.RowKit
/-- The digits behind the point, without noughts at the end. -/
def unitsT (u : Nat) : List UInt8 := Lib.trimRightB (Lib.repeatL [48] (8 - (Lib.decDigits u).length) ++ Lib.decDigits u) 48
def coinT (a : Nat) : List UInt8 := if unitsT (a % 100000000) = [] then Lib.decDigits (a / 100000000) else Lib.decDigits (a / 100000000) ++ 46 :: unitsT (a % 100000000)
def textS (a : Int) : List UInt8 × Int := if amts [a] then (coinT a.toNat, 0) else ([], 2)
theorem nDigits_le8 (u : Nat) (h : u < 100000000) : Lib.nDigits u ≤ 8 := by
  rcases Nat.lt_or_ge u 10 with h0 | h0
  · rw [Lib.nDigits_small h0]; omega
  · have h1 := Lib.lt_pow_nDigits u
    rcases Nat.lt_or_ge 8 (Lib.nDigits u) with h2 | h2
    · exfalso
      have key : ∀ k u : Nat, u < 10 ^ k → 1 ≤ k → Lib.nDigits u ≤ k := by
        intro k
        induction k with
        | zero => intro u _ h; omega
        | succ k ih =>
          intro u hu _
          by_cases hs : u < 10
          · rw [Lib.nDigits_small hs]; omega
          · rw [Lib.nDigits_big hs]
            rcases Nat.eq_zero_or_pos k with rfl | hk
            · simp at hu; omega
            · have := ih (u / 10) (by rw [Nat.pow_succ] at hu; omega) hk
              omega
      have := key 8 u (by omega) (by omega)
      omega
    · exact h2
theorem trimRightB_len (l : List UInt8) (c : UInt8) : (Lib.trimRightB l c).length ≤ l.length := by
  unfold Lib.trimRightB
  rw [List.length_reverse]
  exact Nat.le_trans (List.dropWhile_sublist _).length_le (by simp)
theorem repeatL_one (p : Nat) : (Lib.repeatL [48] p).length = p := by rw [Lib.repeatL_length]; simp
theorem ba_append (a b : List UInt8) : (⟨a.toArray⟩ : ByteArray) ++ ⟨b.toArray⟩ = ⟨(a ++ b).toArray⟩ := by
  apply ByteArray.ext
  simp [ByteArray.data_append]
theorem later_grow (w : World) (k : Nat) (os : Array Obj) : Later w (Sort.grow (w.drewN k) os) := Lib.below_grow _ w (Nat.le_refl _) k os
set_option maxRecDepth 100000 in
theorem text_any (a : Int) (w : World) (hT : Tabs w) :
    Calls Tryz.prog 22 #[.int .i64 a] w fun e w' => e = .returned (.tuple #[.string ⟨(textS a).1.toArray⟩, .int .i64 (textS a).2]) ∧ Below w.heap.size w w' := by
  refine Calls.post fun Φ HΦ => ?_
  have hL0 := (Later.refl w).alloc (.cells #[.int .i64 a] 2)
  have hck := check_any (some ⟨w.heap.size, 0, none⟩) 1 1 [a] _ rfl (by omega) (rd1Z a w)
  cases ha : amts [a] with
  | false =>
    rw [ha] at hck
    have hS : textS a = ([], 2) := by unfold textS; rw [ha]; rfl
    rw [hS] at HΦ
    go_enter Tryz.func22, Tryz.ntmps22
    go_wp2_with (first
      | (refine wpList_buildSl rfl 33 1 _ rfl #[(0, .int .i64 _)] rfl (build1Z _ _) ?_)
      | (go_at_call 24; refine hck.mono ?_; clear hck; rintro e w1 ⟨rfl, hL1⟩)
      | fail)
    exact HΦ.out _ _ ⟨rfl, hL0.step hL1⟩
  | true =>
    rw [ha] at hck
    have hS : textS a = (coinT a.toNat, 0) := by unfold textS; rw [ha]; rfl
    rw [hS] at HΦ
    have h1 := okAmt_iff ha
    obtain ⟨n, rfl⟩ := Int.eq_ofNat_of_zero_le h1.1
    rw [show ((n : Int)).toNat = n from rfl] at HΦ
    obtain ⟨c, hc⟩ : ∃ c, n / 100000000 = c := ⟨_, rfl⟩
    obtain ⟨u, hu⟩ : ∃ u, n % 100000000 = u := ⟨_, rfl⟩
    have d1 : (n : Int) / 100000000 = (c : Int) := by omega
    have d2 : (n : Int) % 100000000 = (u : Int) := by omega
    have d0 : (0 : Int) ≤ (n : Int) := by omega
    have hcb : c < 9223372036854775807 := by omega
    have hub : u < 100000000 := by omega
    have hf1 := fun W (hL : Later w W) => Tryz.strconv_FormatInt_10 (c : Int) (by omega) (by omega) W (hT.later hL).pow
    have hf2 := fun W (hL : Later w W) => Tryz.strconv_FormatInt_10 (u : Int) (by omega) (by omega) W (hT.later hL).pow
    simp only [Lib.itoa_nonneg] at hf1 hf2
    have hm8 := nDigits_le8 u hub
    rw [← Lib.decDigits_length] at hm8
    have hC : coinT n = if unitsT u = [] then Lib.decDigits c else Lib.decDigits c ++ 46 :: unitsT u := by unfold coinT; rw [hc, hu]
    rw [hC] at HΦ
    unfold unitsT at HΦ
    clear hS hC ha h1 hc hu hT
    have hDb : (Lib.decDigits c).length ≤ 20 := by rw [Lib.decDigits_length]; exact Lib.nDigits_le20 c (by omega)
    generalize Lib.decDigits c = D at *
    generalize Lib.decDigits u = U at *
    obtain ⟨p, hp⟩ : ∃ p, 8 - U.length = p := ⟨_, rfl⟩
    rw [hp] at HΦ
    have d3 : (8 : Int) - (U.length : Int) = (p : Int) := by omega
    have hpb : p ≤ 8 := by omega
    have hrep := fun W => Tryz.strings_Repeat ⟨#[48]⟩ p W (by omega) (by show 1 * p ≤ _; omega)
    rw [show (⟨#[48]⟩ : ByteArray).data.toList = [48] from rfl] at hrep
    have hrl := repeatL_one p
    generalize Lib.repeatL [48] p = R at *
    clear hp
    have htr := fun W => Tryz.strings_TrimRight_one (⟨R.toArray⟩ ++ ⟨U.toArray⟩) 48 (by decide) W (by rw [ba_append]; show (R ++ U).toArray.size ≤ _; rw [List.size_toArray, List.length_append]; omega)
    rw [show ((⟨R.toArray⟩ : ByteArray) ++ ⟨U.toArray⟩).data.toList = R ++ U by rw [ba_append]] at htr
    have htl := trimRightB_len (R ++ U) 48
    rw [List.length_append] at htl
    generalize Lib.trimRightB (R ++ U) 48 = T at *
    have hTb : T.length ≤ 16 := by omega
    clear htl
    cases hE : T.isEmpty with
    | true =>
      rw [if_pos (List.isEmpty_iff.1 hE)] at HΦ
      go_enter Tryz.func22, Tryz.ntmps22
      go_wp2_with (first
        | (refine wpList_buildSl rfl 33 1 _ rfl #[(0, .int .i64 _)] rfl (build1Z _ _) ?_)
        | (go_at_call 24; refine hck.mono ?_; clear hck; rintro e w1 ⟨rfl, hL1⟩; have hLa := hL0.step hL1; clear hL0 hL1)
        | (go_at_call 31; refine (hf1 _ hLa).mono ?_; clear hf1; rintro e w2 ⟨rfl, k2, os2, hw2⟩; have hLb := hLa.step (hw2 ▸ later_grow w1 k2 os2); clear hLa hw2)
        | (go_at_call 31; refine (hf2 _ hLb).mono ?_; clear hf2; rintro e w3 ⟨rfl, k3, os3, hw3⟩; have hLc := hLb.step (hw3 ▸ later_grow w2 k3 os3); clear hLb hw3)
        | (go_at_call 33; refine (hrep _).mono ?_; clear hrep; rintro e w4 ⟨rfl, hL4⟩; have hLd := hLc.step hL4; clear hLc hL4)
        | (go_at_call 32; refine (htr _).mono ?_; clear htr; rintro e w5 ⟨rfl, hw5⟩; subst hw5)
        | fail)
      exact HΦ.out _ _ ⟨rfl, hLd⟩
    | false =>
      rw [if_neg (fun h => by rw [List.isEmpty_iff.2 h] at hE; cases hE)] at HΦ
      have hcat : (⟨D.toArray⟩ : ByteArray) ++ ⟨#[46]⟩ ++ ⟨T.toArray⟩ = ⟨(D ++ 46 :: T).toArray⟩ := by
        rw [show (⟨#[46]⟩ : ByteArray) = ⟨[46].toArray⟩ from rfl, ba_append, ba_append, List.append_assoc]
        rfl
      have HCAT := Lib.hid hcat
      clear hcat
      go_enter Tryz.func22, Tryz.ntmps22
      go_wp2_with (first
        | (refine wpList_buildSl rfl 33 1 _ rfl #[(0, .int .i64 _)] rfl (build1Z _ _) ?_)
        | (go_at_call 24; refine hck.mono ?_; clear hck; rintro e w1 ⟨rfl, hL1⟩; have hLa := hL0.step hL1; clear hL0 hL1)
        | (go_at_call 31; refine (hf1 _ hLa).mono ?_; clear hf1; rintro e w2 ⟨rfl, k2, os2, hw2⟩; have hLb := hLa.step (hw2 ▸ later_grow w1 k2 os2); clear hLa hw2)
        | (go_at_call 31; refine (hf2 _ hLb).mono ?_; clear hf2; rintro e w3 ⟨rfl, k3, os3, hw3⟩; have hLc := hLb.step (hw3 ▸ later_grow w2 k3 os3); clear hLb hw3)
        | (go_at_call 33; refine (hrep _).mono ?_; clear hrep; rintro e w4 ⟨rfl, hL4⟩; have hLd := hLc.step hL4; clear hLc hL4)
        | (go_at_call 32; refine (htr _).mono ?_; clear htr; rintro e w5 ⟨rfl, hw5⟩; subst hw5)
        | fail)
      refine HΦ.out _ _ ⟨?_, hLd⟩
      show Ending.returned (.tuple #[.string (⟨D.toArray⟩ ++ ⟨#[46]⟩ ++ ⟨T.toArray⟩), .int .i64 0]) = _
      rw [HCAT.out]
end Go.Proofs.YtcfhhljjknmniaaGreatDoor
