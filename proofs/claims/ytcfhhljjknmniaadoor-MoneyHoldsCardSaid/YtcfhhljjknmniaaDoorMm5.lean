/- money: what a share of an amount is. -/
import Derived.Test.YtcfhhljjknmniaaDoorMm4
import Derived.Test.YtcfhhljjknmniaaDoorShelf
set_option linter.unusedVariables false
set_option linter.unusedSimpArgs false
namespace Go.Proofs.YtcfhhljjknmniaaDoor
open Go.RowKit
theorem mul_split (n k : Nat) : n * k / 18446744073709551616 * 18446744073709551616 + n * k % 18446744073709551616 = n * k := by omega
set_option maxRecDepth 100000 in
theorem of1_any (g n k : Nat) (w : World) (hg : w.cell? ⟨g, 0, none⟩ = some (.int .i64 (n : Int))) (hn : n < 9223372036854775808) (hk : k < 18446744073709551616) (hq : n * k / 18446744073709551616 < 64) (hr : n * k / 1000000 < 9223372036854775808) :
    Calls Tryd.prog 48 #[.int .u64 (k : Int), .int .u64 1000000, .pointer (some ⟨g, 0, none⟩)] w fun e w' => e = .returned (.int .i64 ((n * k / 1000000 : Nat) : Int)) ∧ Later w w' := by
  refine Calls.post fun Φ HΦ => ?_
  have hm := Tryd.bits_Mul64 n k (by omega) hk w
  have hd := div64_all (n * k / 18446744073709551616) (n * k % 18446744073709551616) w hq (Nat.mod_lt _ (by decide))
  rw [mul_split n k] at hd
  obtain ⟨r, hr'⟩ : ∃ r, n * k / 1000000 = r := ⟨_, rfl⟩
  obtain ⟨H, hH⟩ : ∃ r, n * k / 18446744073709551616 = r := ⟨_, rfl⟩
  obtain ⟨L, hL⟩ : ∃ r, n * k % 18446744073709551616 = r := ⟨_, rfl⟩
  rw [hr'] at hr hd HΦ
  rw [hH] at hm hd
  rw [hL] at hm hd
  clear hr' hH hL hq
  have c1 : IntKind.u64.wrap (n : Int) = (n : Int) := by rw [IntKind.wrap_u64]; omega
  have c2 : IntKind.i64.wrap (r : Int) = (r : Int) := IntWalk.i64_in _ (by omega)
  go_enter Tryd.func48, Tryd.ntmps48
  go_wp2_with (first
    | (go_at_call 49; refine hm.mono ?_; clear hm; rintro e w1 ⟨rfl, rfl⟩)
    | (go_at_call 50; refine hd.mono ?_; clear hd; rintro e w1 ⟨⟨z, rfl⟩, hL⟩)
    | fail)
  exact HΦ.out _ _ ⟨rfl, hL⟩
set_option maxRecDepth 100000 in
theorem of_any (n : Int) (w : World) :
    Calls Tryd.prog 33 #[.int .i64 n] w fun e w' => e = .returned (.func (.func 48) #[] #[.pointer (some ⟨w.heap.size, 0, none⟩)]) ∧ w' = w.alloc (.cells #[.int .i64 n] 2) := by
  refine Calls.post fun Φ HΦ => ?_
  go_enter Tryd.func33, Tryd.ntmps33
  go_wp2_with fail
  exact HΦ.out _ _ ⟨rfl, rfl⟩
def okRate (r : Int) : Bool := !bad 1000000 r
def shareS (a r : Int) : Int × Int := if amts [a] && okRate r then (a * r / 1000000, 0) else (0, 2)
theorem amts_one (a : Int) : amts [a] = !bad maxAmt a := by simp [amts]
theorem rate_one (r : Int) : (![r].any (bad 1000000)) = okRate r := by simp [okRate]
theorem okRate_iff {r : Int} (h : okRate r = true) : 0 ≤ r ∧ r ≤ 1000000 := by simp [okRate, bad] at h; omega
theorem okAmt_iff {a : Int} (h : amts [a] = true) : 0 ≤ a ∧ a ≤ 1125899906842624 := by simp [amts, bad, maxAmt] at h; omega
theorem share_nat (a r : Nat) (ha : a ≤ 1125899906842624) (hr : r ≤ 1000000) : a * r ≤ 1125899906842624000000 := Nat.mul_le_mul ha hr
theorem share_split (a r : Nat) : a / 1000000 * r + a % 1000000 * r / 1000000 = a * r / 1000000 := by
  have h : a * r = 1000000 * (a / 1000000 * r) + a % 1000000 * r := by
    conv => lhs; rw [← Nat.div_add_mod a 1000000]
    rw [Nat.add_mul, Nat.mul_assoc]
  rw [h]
  omega
set_option maxRecDepth 100000 in
theorem share_any (a r : Int) (w : World) :
    Calls Tryd.prog 18 #[.int .i64 a, .int .i64 r] w fun e w' => e = .returned (.tuple #[.int .i64 (shareS a r).1, .int .i64 (shareS a r).2]) ∧ Below w.heap.size w w' := by
  refine Calls.post fun Φ HΦ => ?_
  have hL0 := (Later.refl w).alloc (.cells #[.int .i64 a] 2)
  have hck := check_any (some ⟨w.heap.size, 0, none⟩) 1 1 [a] _ rfl (by omega) (rd1Z a w)
  have hin := fun W => in_any 1000000 (some ⟨World.heap W |>.size, 0, none⟩) 1 1 [r] _ rfl (by omega) (rd1Z r W)
  simp only [rate_one] at hin
  cases ha : amts [a] with
  | false =>
    rw [ha] at hck
    have hS : shareS a r = (0, 2) := by simp [shareS, ha]
    rw [hS] at HΦ
    clear hin
    go_enter Tryd.func18, Tryd.ntmps18
    go_wp2_with (first
      | (refine wpList_buildSl rfl 22 1 _ rfl #[(0, .int .i64 a)] rfl (build1Z a _) ?_)
      | (go_at_call 16; refine hck.mono ?_; clear hck; rintro e w1 ⟨rfl, hL1⟩)
      | fail)
    exact HΦ.out _ _ ⟨rfl, hL0.step hL1⟩
  | true =>
    rw [ha] at hck
    cases hr : okRate r with
    | false =>
      simp only [hr] at hin
      have hS : shareS a r = (0, 2) := by simp [shareS, ha, hr]
      rw [hS] at HΦ
      go_enter Tryd.func18, Tryd.ntmps18
      go_wp2_with (first
        | (refine wpList_buildSl rfl 22 1 _ rfl #[(0, .int .i64 _)] rfl (build1Z _ _) ?_)
        | (go_at_call 16; refine hck.mono ?_; clear hck; rintro e w1 ⟨rfl, hL1⟩)
        | (go_at_call 32; refine (hin _).mono ?_; clear hin; rintro e w2 ⟨rfl, hL2⟩)
        | fail)
      exact HΦ.out _ _ ⟨rfl, ((hL0.step hL1).step ((Later.refl w1).alloc _)).step hL2⟩
    | true =>
      simp only [hr] at hin
      have h1 := okAmt_iff ha
      have h2 := okRate_iff hr
      obtain ⟨n, rfl⟩ := Int.eq_ofNat_of_zero_le h1.1
      obtain ⟨k, rfl⟩ := Int.eq_ofNat_of_zero_le h2.1
      have hn : n ≤ 1125899906842624 := by omega
      have hk : k ≤ 1000000 := by omega
      have hnk := share_nat n k hn hk
      have hS : shareS n k = (((n * k / 1000000 : Nat) : Int), 0) := by simp [shareS, ha, hr]
      rw [hS] at HΦ
      have hof := fun W => of1_any (World.heap W |>.size) n k (W.alloc (.cells #[.int .i64 (n : Int)] 2)) (((Row.new W 2 #[.int .i64 (n : Int)]).cell 0).trans rfl) (by omega) (by omega) (by omega) (by omega)
      have c1 : IntKind.u64.wrap (k : Int) = (k : Int) := by rw [IntKind.wrap_u64]; omega
      clear h1 h2 hnk hn hk ha hr hS
      go_enter Tryd.func18, Tryd.ntmps18
      go_wp2_with (first
        | (refine wpList_buildSl rfl 22 1 _ rfl #[(0, .int .i64 _)] rfl (build1Z _ _) ?_)
        | (go_at_call 16; refine hck.mono ?_; clear hck; rintro e w1 ⟨rfl, hL1⟩)
        | (go_at_call 32; refine (hin _).mono ?_; clear hin; rintro e w2 ⟨rfl, hL2⟩)
        | (go_at_call 33; refine (of_any _ _).mono ?_; rintro e w3 ⟨rfl, rfl⟩)
        | (go_at_call 48; refine (hof _).mono ?_; clear hof; rintro e w4 ⟨rfl, hL4⟩)
        | fail)
      exact HΦ.out _ _ ⟨rfl, ((((hL0.step hL1).step ((Later.refl w1).alloc _)).step hL2).step ((Later.refl w2).alloc _)).step hL4⟩
theorem rate5_any (r : Int) (w : World) : Calls Tryd.prog 34 #[.int .i64 r] w fun e w' => e = .returned (.bool (okRate r)) ∧ w = w' := by
  refine Calls.post fun Φ HΦ => ?_
  by_cases h : 0 ≤ r
  · have e1 : decide (0 ≤ r) = true := decide_eq_true h
    have e2 : okRate r = decide (r ≤ 1000000) := by
      have h0 : decide (r < 0) = false := decide_eq_false (by omega)
      by_cases h' : r ≤ 1000000
      · have h1 : decide (1000000 < r) = false := decide_eq_false (by omega)
        simp only [okRate, bad, h0, h1, decide_eq_true h', Bool.or_self, Bool.not_false]
      · have h1 : decide (1000000 < r) = true := decide_eq_true (by omega)
        simp only [okRate, bad, h0, h1, decide_eq_false h', Bool.or_true, Bool.not_true]
    rw [e2] at HΦ
    go_enter Tryd.func34, Tryd.ntmps34
    go_wp2_with fail
    exact HΦ.out _ _ ⟨rfl, rfl⟩
  · have e1 : decide (0 ≤ r) = false := decide_eq_false h
    have e2 : okRate r = false := by
      have : decide (r < 0) = true := decide_eq_true (by omega)
      simp [okRate, bad, this]
    rw [e2] at HΦ
    go_enter Tryd.func34, Tryd.ntmps34
    go_wp2_with fail
    exact HΦ.out _ _ ⟨rfl, rfl⟩
set_option maxRecDepth 100000 in
theorem refShare_any (a r : Int) (w : World) :
    Calls Tryd.prog 19 #[.int .i64 a, .int .i64 r] w fun e w' => e = .returned (.tuple #[.int .i64 (shareS a r).1, .int .i64 (shareS a r).2]) ∧ w = w' := by
  refine Calls.post fun Φ HΦ => ?_
  have hra := right5_any a w
  have hrr := rate5_any r w
  rw [← amts_one a] at hra
  cases ha : amts [a] with
  | false =>
    rw [ha] at hra
    have hS : shareS a r = (0, 2) := by simp [shareS, ha]
    rw [hS] at HΦ
    go_enter Tryd.func19, Tryd.ntmps19
    go_wp2_with (first
      | (go_at_call 14; refine hra.mono ?_; clear hra; rintro e w1 ⟨rfl, rfl⟩)
      | fail)
    exact HΦ.out _ _ ⟨rfl, rfl⟩
  | true =>
    rw [ha] at hra
    cases hr : okRate r with
    | false =>
      rw [hr] at hrr
      have hS : shareS a r = (0, 2) := by simp [shareS, ha, hr]
      rw [hS] at HΦ
      go_enter Tryd.func19, Tryd.ntmps19
      go_wp2_with (first
        | (go_at_call 14; refine hra.mono ?_; clear hra; rintro e w1 ⟨rfl, rfl⟩)
        | (go_at_call 34; refine hrr.mono ?_; clear hrr; rintro e w1 ⟨rfl, rfl⟩)
        | fail)
      exact HΦ.out _ _ ⟨rfl, rfl⟩
    | true =>
      rw [hr] at hrr
      have h1 := okAmt_iff ha
      have h2 := okRate_iff hr
      obtain ⟨n, rfl⟩ := Int.eq_ofNat_of_zero_le h1.1
      obtain ⟨k, rfl⟩ := Int.eq_ofNat_of_zero_le h2.1
      have hn : n ≤ 1125899906842624 := by omega
      have hk : k ≤ 1000000 := by omega
      have hS : shareS n k = (((n * k / 1000000 : Nat) : Int), 0) := by simp [shareS, ha, hr]
      rw [hS, ← share_split n k] at HΦ
      have b1 : n / 1000000 * k ≤ 1125899906 * 1000000 := Nat.mul_le_mul (by omega) hk
      have b2 : n % 1000000 * k ≤ 1000000 * 1000000 := Nat.mul_le_mul (by omega) hk
      obtain ⟨q, hq⟩ : ∃ q, n / 1000000 = q := ⟨_, rfl⟩
      obtain ⟨m, hm⟩ : ∃ m, n % 1000000 = m := ⟨_, rfl⟩
      have d1 : (n : Int) / 1000000 = (q : Int) := by omega
      have d2 : (n : Int) % 1000000 = (m : Int) := by omega
      rw [hq] at b1 HΦ
      rw [hm] at b2 HΦ
      obtain ⟨X, hX⟩ : ∃ X, q * k = X := ⟨_, rfl⟩
      obtain ⟨Y, hY⟩ : ∃ Y, m * k = Y := ⟨_, rfl⟩
      have d3 : (q : Int) * (k : Int) = (X : Int) := by rw [← hX]; exact (Int.natCast_mul _ _).symm
      have d4 : (m : Int) * (k : Int) = (Y : Int) := by rw [← hY]; exact (Int.natCast_mul _ _).symm
      rw [hX] at b1 HΦ
      rw [hY] at b2 HΦ
      clear h1 h2 ha hr hS hq hm hX hY
      have h0 : (0 : Int) ≤ (n : Int) := by omega
      go_enter Tryd.func19, Tryd.ntmps19
      go_wp2_with (first
        | (go_at_call 14; refine hra.mono ?_; clear hra; rintro e w1 ⟨rfl, rfl⟩)
        | (go_at_call 34; refine hrr.mono ?_; clear hrr; rintro e w1 ⟨rfl, rfl⟩)
        | fail)
      exact HΦ.out _ _ ⟨rfl, rfl⟩
end Go.Proofs.YtcfhhljjknmniaaDoor
