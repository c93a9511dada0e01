/- HmacExpands: the walk. -/
import Derived.Test.YtbjclmfhmdalkaaHm14
set_option linter.unusedVariables false
set_option linter.unusedSimpArgs false
namespace Go.Proofs.Ytbjclmfhmdalkaa
open Go.RowKit
theorem strEq (s : List UInt8) (W : World) : (binOp .eql 9 (.string ⟨s.toArray⟩) (.string ⟨s.toArray⟩)).run Try.prog W = .ok (.bool true) W := by
  go_simp
set_option maxRecDepth 100000 in
set_option maxHeartbeats 1000000 in
theorem hmacExpands_big (A : Option Addr) (m ca : Nat) (name : List UInt8) (n : Int) (w : World) (hm : m ≤ 9223372036854775807) (hn : name.length ≤ 9223372036854775807)
    (hout : 200 < m ∨ 200 < name.length ∨ (400 < n ∧ n < 8160)) :
    Calls Try.prog 4 #[.slice A m ca, .string ⟨name.toArray⟩, .int .i64 n] w fun e w' => e = .returned (.bool true) ∧ Below w.heap.size w w' := by
  by_cases h1 : 200 < m
  · have hd1 : decide (200 < m) = true := by simpa using h1
    have hd1' : decide ((200 : Int) < (m : Int)) = true := by simp; omega
    go_enter Try.func4, Try.ntmps4
    go_wp2_with (first | (go_at_call 10; refine (works2_yes _).mono ?_; rintro e w1 ⟨rfl, hb1⟩) | fail)
    go_ret
    exact ⟨rfl, hb1⟩
  · have hd1 : decide (200 < m) = false := by simpa using h1
    have hd1' : decide ((200 : Int) < (m : Int)) = false := by simp; omega
    by_cases h2 : 200 < name.length
    · have hd2 : decide (200 < name.length) = true := by simpa using h2
      have hd2' : decide ((200 : Int) < (name.length : Int)) = true := by simp; omega
      go_enter Try.func4, Try.ntmps4
      go_wp2_with (first | (go_at_call 10; refine (works2_yes _).mono ?_; rintro e w1 ⟨rfl, hb1⟩) | fail)
      go_ret
      exact ⟨rfl, hb1⟩
    · have hd2 : decide (200 < name.length) = false := by simpa using h2
      have hd2' : decide ((200 : Int) < (name.length : Int)) = false := by simp; omega
      have h3 : decide (400 < n) = true := by simp; omega
      have h4 : decide (n < 8160) = true := by simp; omega
      go_enter Try.func4, Try.ntmps4
      go_wp2_with (first | (go_at_call 10; refine (works2_yes _).mono ?_; rintro e w1 ⟨rfl, hb1⟩) | fail)
      go_ret
      exact ⟨rfl, hb1⟩
set_option maxRecDepth 100000 in
set_option maxHeartbeats 1000000 in
theorem hmacExpands_main (A : Option Addr) (m ca : Nat) (key name : List UInt8) (n : Int) (w : World) (hm : key.length = m) (hc : m ≤ ca) (hcm : ca ≤ 9223372036854775807) (hr : Rd w A key)
    (h1 : ¬ 200 < m) (h2 : ¬ 200 < name.length) (h3 : ¬ (400 < n ∧ n < 8160)) :
    Calls Try.prog 4 #[.slice A m ca, .string ⟨name.toArray⟩, .int .i64 n] w fun e w' => e = .returned (.bool true) ∧ Below w.heap.size w w' := by
  have hd1 : decide (200 < m) = false := by simpa using h1
  have hd1' : decide ((200 : Int) < (m : Int)) = false := by simp; omega
  have hd2 : decide (200 < name.length) = false := by simpa using h2
  have hd2' : decide ((200 : Int) < (name.length : Int)) = false := by simp; omega
  have hd3 : (decide (400 < n) = false) ∨ (decide (400 < n) = true ∧ decide (n < 8160) = false) := by
    by_cases h : 400 < n
    · right
      have : ¬ n < 8160 := fun h' => h3 ⟨h, h'⟩
      exact ⟨by simpa using h, by simpa using this⟩
    · left
      simpa using h
  have HM := Lib.hid hm
  by_cases hok : 0 ≤ n ∧ n ≤ 8160
  · obtain ⟨k, rfl⟩ : ∃ k : Nat, n = (k : Int) := ⟨n.toNat, by omega⟩
    have hE := expand_any A m ca key name k w hm hc hcm (by omega) (by omega) hr (by omega)
    have hR : Hid (∀ W, Later w W → _) := Lib.hid (fun W (hL : Later w W) => refExpand_any A m ca key name k W hm hc hcm (by omega) (by omega) (hr.later hL) (by omega))
    have hxl := Hm.expand_len key name k
    generalize Hm.expand key name k = x at *
    have HXL := Lib.hid hxl
    clear hm hr h3 hxl
    rcases hd3 with hd3 | ⟨hd3, hd4⟩
    all_goals
      go_enter Try.func4, Try.ntmps4
      go_upto_region 5 with (first
        | (go_at_call 13; refine hE.mono ?_; clear hE; rintro e w1 ⟨v1, rfl, hown1, hb1⟩; obtain ⟨A1, c1, rfl, _, _, hr1⟩ := hown1.slice; rw [HXL.out])
        | (go_at_call 14; refine (hR.out _ hb1).mono ?_; rintro e w2 ⟨v2, rfl, ⟨A2, c2, rfl, _, _, hr2, _⟩, hb2⟩)
        | fail)
      have hL1 : Later w w1 := hb1
      have hL2 : Later w1 w2 := hb2
      have hL := hL1.step hL2
      have hcv1 := run_string_rd (P := Try.prog) w2 22 9 5 A1 k c1 x Try.underlying22 Try.underlying5 Try.underlying9 HXL.out (hr1.later hL2)
      have hcv2 := run_string_rd (P := Try.prog) w2 22 9 5 A2 k c2 x Try.underlying22 Try.underlying5 Try.underlying9 HXL.out hr2
      clear hown1 hb1 hb2 hL1 hL2 hr1 hr2 hR
      go_wp2_with (first
        | (go_at_call 15; refine (num2_any _ _).mono ?_; rintro e w' ⟨rfl, rfl⟩)
        | (go_at_call 10; refine (works2_yes _).mono ?_; rintro e w3 ⟨rfl, hb3⟩)
        | fail)
      go_ret
      exact ⟨rfl, hL.step hb3⟩
  · have hbad : n < 0 ∨ 8160 < n := by omega
    have hE := expand_out A m ca ⟨name.toArray⟩ n w hbad
    have hR := fun W => refExpand_out A m ca ⟨name.toArray⟩ n W hbad
    have HR := Lib.hid hR
    clear hm hr h3 hR
    rcases hd3 with hd3 | ⟨hd3, hd4⟩
    all_goals
      go_enter Try.func4, Try.ntmps4
      go_upto_region 5 with (first
        | (go_at_call 13; refine hE.mono ?_; clear hE; rintro e w1 ⟨rfl, hL1⟩)
        | (go_at_call 14; refine (HR.out _).mono ?_; rintro e w2 ⟨rfl, rfl⟩)
        | fail)
      have hcv1 := run_string_rd (P := Try.prog) w1 22 9 5 none 0 0 [] Try.underlying22 Try.underlying5 Try.underlying9 rfl (fun h => absurd rfl h)
      go_wp2_with (first
        | (go_at_call 15; refine (num2_any _ _).mono ?_; rintro e w' ⟨rfl, rfl⟩)
        | (go_at_call 10; refine (works2_yes _).mono ?_; rintro e w3 ⟨rfl, hb3⟩)
        | fail)
      go_ret
      exact ⟨rfl, hL1.step hb3⟩
theorem hmacExpands_walk (A : Option Addr) (m c : Nat) (key : List UInt8) (s : ByteArray) (w1 : s.size ≤ maxLen) (n : Int) (w2 : (Lit.int .i64 n).wf = true) (w : World) (hi : InBytes w A m c key) :
    Calls Try.prog 4 #[.slice A m c, .string s, .int .i64 n] w fun e w' => e = .returned (.bool true) ∧ Below w.heap.size w w' := by
  obtain ⟨q, rfl⟩ : ∃ q : List UInt8, s = ⟨q.toArray⟩ := ⟨s.data.toList, by cases s; simp⟩
  have hq : q.length ≤ 9223372036854775807 := by
    have e : (ByteArray.mk q.toArray).size = q.length := by simp [ByteArray.size]
    rw [e] at w1
    unfold maxLen at w1
    exact w1
  have h1 := hi.cap
  have h2 := hi.most
  unfold maxLen at h2
  by_cases hout : 200 < m ∨ 200 < q.length ∨ (400 < n ∧ n < 8160)
  · exact hmacExpands_big A m c q n w (by omega) hq hout
  · exact hmacExpands_main A m c key q n w hi.len h1 (by omega) hi.rd (fun h => hout (.inl h)) (fun h => hout (.inr (.inl h))) (fun h => hout (.inr (.inr h)))
end Go.Proofs.Ytbjclmfhmdalkaa
