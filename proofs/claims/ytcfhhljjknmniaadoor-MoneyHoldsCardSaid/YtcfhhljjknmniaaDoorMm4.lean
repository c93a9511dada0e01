/- money: shares. -/
import Derived.Test.YtcfhhljjknmniaaDoorMm3
import Derived.Deep.DeepCutAuto
import Derived.Deep.QuietTactic
set_option linter.unusedVariables false
set_option linter.unusedSimpArgs false
namespace Go.Proofs.YtcfhhljjknmniaaDoor
open Go.RowKit
set_option maxRecDepth 100000 in
theorem len64_million (w : World) : Calls Tryd.prog 86 #[.int .u64 1000000] w fun e w' => e = .returned (.int .i64 20) ∧ w = w' := by
  go_enter Tryd.func86, Tryd.ntmps86
  go_wp2
  go_ret
  exact ⟨by kernel_rfl, rfl⟩
theorem lead64_million (w : World) : Calls Tryd.prog 68 #[.int .u64 1000000] w fun e w' => e = .returned (.int .i64 44) ∧ w = w' := by
  have hl := len64_million w
  go_enter Tryd.func68, Tryd.ntmps68
  go_wp2_with (first
    | (go_at_call 86; refine hl.mono ?_; clear hl; rintro e w' ⟨rfl, rfl⟩)
    | fail)
  go_ret
  exact ⟨rfl, rfl⟩
theorem div_f1 (hi lo : Nat) (h1 : 0 < hi) (h2 : hi < 64) (h3 : lo < 18446744073709551616) : bits .or .u64 ((hi : Int) * 17592186044416) ((lo : Int) / 1048576) = ((hi * 17592186044416 + lo / 1048576 : Nat) : Int) := by
  have h := u64_or_nat (hi * 17592186044416) (lo / 1048576) (by omega) (by omega)
  rw [nat_join 44 (hi * 17592186044416) (lo / 1048576) (by omega) (by omega)] at h
  rw [← h]
  congr 1
theorem div_f2 (lo : Nat) (h3 : lo < 18446744073709551616) : IntKind.u64.wrap ((lo : Int) * 17592186044416) = ((lo % 1048576 * 17592186044416 : Nat) : Int) := by
  rw [IntKind.wrap_u64]
  omega
theorem div_f4 (lo : Nat) (h3 : lo < 18446744073709551616) : bits .and .u64 ((lo % 1048576 * 17592186044416 : Nat) : Int) 4294967295 = 0 := by
  have h := u64_and_nat (lo % 1048576 * 17592186044416) 4294967295 (by omega) (by omega)
  rw [show (4294967295 : Int) = ((4294967295 : Nat) : Int) from rfl, h]
  rw [show 4294967295 = 2 ^ 32 - 1 from rfl, Nat.and_two_pow_sub_one_eq_mod]
  omega
theorem div_g3 (U V q1 r1 : Nat) (hV : V < 4294967296) (hU : U = q1 * 4096000000 + r1) (hr : r1 < 4096000000) : IntKind.u64.wrap (IntKind.u64.wrap (IntKind.u64.wrap ((U : Int) * 4294967296) + (V : Int)) - IntKind.u64.wrap ((q1 : Int) * 17592186044416000000)) = ((r1 * 4294967296 + V : Nat) : Int) := by
  have hUZ : (U : Int) = q1 * 4096000000 + r1 := by omega
  have ha := Int.emod_def ((U : Int) * 4294967296) 18446744073709551616
  have hb := Int.emod_def ((q1 : Int) * 17592186044416000000) 18446744073709551616
  have hc := Int.emod_def ((U : Int) * 4294967296 % 18446744073709551616 + V) 18446744073709551616
  rw [IntKind.wrap_u64, IntKind.wrap_u64, IntKind.wrap_u64, IntKind.wrap_u64, hc, ha, hb, hUZ]
  generalize ((q1 * 4096000000 + r1 : Int) * 4294967296) / 18446744073709551616 = a
  generalize ((q1 : Int) * 17592186044416000000) / 18446744073709551616 = b
  generalize ((q1 * 4096000000 + r1 : Int) * 4294967296 - 18446744073709551616 * a + V) / 18446744073709551616 = c
  clear hUZ hU ha hb hc
  have : ((q1 * 4096000000 + r1 : Int) * 4294967296 - 18446744073709551616 * a + V - 18446744073709551616 * c - (q1 * 17592186044416000000 - 18446744073709551616 * b)) = ((r1 * 4294967296 + V : Nat) : Int) + 18446744073709551616 * (b - a - c) := by omega
  rw [this, Int.add_mul_emod_self_left]
  omega
structure Div64F (hi lo U T V q1 r1 X q0 r0 : Nat) : Prop where
  hU : hi * 17592186044416 + lo / 1048576 = U
  hT : lo % 1048576 * 17592186044416 = T
  hV : lo % 1048576 * 4096 = V
  hUq : U = q1 * 4096000000 + r1
  hr1 : r1 < 4096000000
  hX : r1 * 4294967296 + V = X
  hXq : X = q0 * 4096000000 + r0
  hr0 : r0 < 4096000000
  hUb : U < 1125899906842624
  hVb : V < 4294967296
  hq1 : q1 < 4294967296
  hq0 : q0 < 4294967296
theorem div_exists (hi lo : Nat) (h1 : 0 < hi) (h2 : hi < 64) (h3 : lo < 18446744073709551616) : ∃ U T V q1 r1 X q0 r0, Div64F hi lo U T V q1 r1 X q0 r0 := by
  refine ⟨_, _, _, (hi * 17592186044416 + lo / 1048576) / 4096000000, (hi * 17592186044416 + lo / 1048576) % 4096000000, _, ((hi * 17592186044416 + lo / 1048576) % 4096000000 * 4294967296 + lo % 1048576 * 4096) / 4096000000, ((hi * 17592186044416 + lo / 1048576) % 4096000000 * 4294967296 + lo % 1048576 * 4096) % 4096000000, rfl, rfl, rfl, ?_, ?_, rfl, ?_, ?_, ?_, ?_, ?_, ?_⟩ <;> omega
set_option maxRecDepth 100000 in
theorem div_q {hi lo U T V q1 r1 X q0 r0 : Nat} (h : Div64F hi lo U T V q1 r1 X q0 r0) : (hi * 18446744073709551616 + lo) / 1000000 = q1 * 4294967296 + q0 := by
  obtain ⟨a, b, c, d, e, f, g, i, j, k, l, m⟩ := h
  have : (hi * 18446744073709551616 + lo) * 4096 = (q1 * 4294967296 + q0) * 4096000000 + r0 := by omega
  omega
set_option maxRecDepth 100000 in
theorem div64_any (hi lo : Nat) (w : World) (h1 : 0 < hi) (h2 : hi < 64) (h3 : lo < 18446744073709551616) :
    Calls Tryd.prog 50 #[.int .u64 (hi : Int), .int .u64 (lo : Int), .int .u64 1000000] w fun e w' => (∃ r, e = .returned (.tuple #[.int .u64 (((hi * 18446744073709551616 + lo) / 1000000 : Nat) : Int), r])) ∧ w = w' := by
  refine Calls.post fun Φ HΦ => ?_
  obtain ⟨U, T, V, q1, r1, X, q0, r0, hF⟩ := div_exists hi lo h1 h2 h3
  rw [div_q hF] at HΦ
  have e1 : decide ((1000000 : Int) ≤ (hi : Int)) = false := decide_eq_false (by omega)
  have e2 : decide ((hi : Int) = 0) = false := decide_eq_false (by omega)
  have f0 : bits .and .u64 17592186044416000000 4294967295 = 0 := by kernel_rfl
  have f1 := div_f1 hi lo h1 h2 h3
  have f2 := div_f2 lo h3
  have f4 := div_f4 lo h3
  rw [hF.hU] at f1
  rw [hF.hT] at f2 f4
  have f3 : (T : Int) / 4294967296 = (V : Int) := by have := hF.hT; have := hF.hV; omega
  have g1 : (U : Int) / 4096000000 = (q1 : Int) := by have := hF.hUq; have := hF.hr1; omega
  have g2 : (U : Int) - (q1 : Int) * 4096000000 = (r1 : Int) := by have := hF.hUq; omega
  have g3 := div_g3 U V q1 r1 hF.hVb hF.hUq hF.hr1
  rw [hF.hX] at g3
  have g4 : (X : Int) / 4096000000 = (q0 : Int) := by have := hF.hXq; have := hF.hr0; omega
  have g5 : (X : Int) - (q0 : Int) * 4096000000 = (r0 : Int) := by have := hF.hXq; omega
  have hq1b := hF.hq1
  have hq0b := hF.hq0
  have hr1b := hF.hr1
  have hr0b := hF.hr0
  have hUb := hF.hUb
  have hVb := hF.hVb
  have d1 : decide (4294967296 ≤ (q1 : Int)) = false := decide_eq_false (by omega)
  have d2 : decide (4294967296 * (r1 : Int) + (V : Int) < 0) = false := decide_eq_false (by omega)
  have d3 : decide (4294967296 ≤ (q0 : Int)) = false := decide_eq_false (by omega)
  have d4 : decide (4294967296 * (r0 : Int) < 0) = false := decide_eq_false (by omega)
  have hXb : X < 18446744073709551616 := by have := hF.hX; omega
  have HF := Lib.hid hF
  clear hF
  go_enter Tryd.func50, Tryd.ntmps50
  go_wp2_with (first
    | (go_at_call 68; refine (lead64_million w).mono ?_; rintro e w' ⟨rfl, rfl⟩)
    | fail)
  go_loopw [15, 16] (fun t u wr => t = .int .u64 (q1 : Int) ∧ u = .int .u64 (r1 : Int) ∧ w = wr) (fun _ _ _ => 0)
  case atStart => exact ⟨rfl, rfl, rfl⟩
  case round =>
    obtain ⟨rfl, rfl, rfl⟩ := hrel
    go_wp2_with fail
    go_loopw [18, 16] (fun t u wr => t = .int .u64 (q0 : Int) ∧ u = .int .u64 (r0 : Int) ∧ w = wr) (fun _ _ _ => 0)
    case atStart => exact ⟨rfl, rfl, rfl⟩
    case round =>
      obtain ⟨rfl, rfl, rfl⟩ := hrel
      go_wp2_with fail
      exact HΦ.out _ _ ⟨⟨_, rfl⟩, rfl⟩
set_option maxRecDepth 100000 in
theorem div64_small (lo : Nat) (w : World) (h3 : lo < 18446744073709551616) :
    Calls Tryd.prog 50 #[.int .u64 0, .int .u64 (lo : Int), .int .u64 1000000] w fun e w' => (∃ r, e = .returned (.tuple #[.int .u64 ((lo / 1000000 : Nat) : Int), r])) ∧ Later w w' := by
  refine Calls.post fun Φ HΦ => ?_
  go_enter Tryd.func50, Tryd.ntmps50
  go_wp2_with fail
  go_region
  go_wp2
  exact HΦ.out _ _ ⟨⟨_, rfl⟩, (Later.refl w).drew⟩
theorem div64_all (hi lo : Nat) (w : World) (h2 : hi < 64) (h3 : lo < 18446744073709551616) :
    Calls Tryd.prog 50 #[.int .u64 (hi : Int), .int .u64 (lo : Int), .int .u64 1000000] w fun e w' => (∃ r, e = .returned (.tuple #[.int .u64 (((hi * 18446744073709551616 + lo) / 1000000 : Nat) : Int), r])) ∧ Later w w' := by
  rcases Nat.eq_zero_or_pos hi with rfl | h1
  · have := div64_small lo w h3
    rw [Nat.zero_mul, Nat.zero_add]
    exact this
  · exact (div64_any hi lo w h1 h2 h3).mono fun e w' ⟨he, hw⟩ => ⟨he, hw ▸ Later.refl w⟩
end Go.Proofs.YtcfhhljjknmniaaDoor
