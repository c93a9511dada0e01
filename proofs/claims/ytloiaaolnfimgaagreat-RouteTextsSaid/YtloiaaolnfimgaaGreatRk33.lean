/- Walks, route: the document's digit; its Parse. -/
import Derived.Test.YtloiaaolnfimgaaGreatRk32
import Derived.Test.YtloiaaolnfimgaaGreatRk26
import Derived.Test.YtloiaaolnfimgaaGreatRk33o
set_option linter.unusedVariables false
set_option linter.unusedSimpArgs false
namespace Go.Proofs.YtloiaaolnfimgaaGreat
open Go.RowKit Rt
namespace Rt
theorem op_index {P : Program} {Q : Exit → Act → World → Prop} {o : Oper} {a : Act} {W : World} {R : Value → World → Prop} {t : TypeId} {x y : Operand} {vx vy v : Value} (ho : o.op = .index t x y) (hx : a.eval x = vx) (hy : a.eval y = vy) (hr : (Instr.index t vx vy).run P W = .ok v W) (h : R v W) : o.wp P a W (fun a' W' => ∃ v, a' = a.put o.dst v ∧ Later W W' ∧ R v W') Q := by
  refine op_value (v := v) (W' := W) ?_ (Later.refl _) h
  unfold execOp
  simp only [ho, hx, hy, hr, Sem.run_bind, Sem.run_pure, Result.andThen_ok]
theorem idxStr {s : ByteArray} {k : Nat} {c : UInt8} (hk : k < s.size) (hc : s[k] = c) (W : World) : (Instr.index 9 (.string s) (.int .i64 (k : Int))).run Tryz.prog W = .ok (.int .u8 (c.toNat : Int)) W := by
  have h1 : (k : Int) < (s.size : Int) := by omega
  have h2 : (0 : Int) ≤ (k : Int) := by omega
  subst hc
  go_simp
end Rt
theorem dig_range (c : UInt8) : (48 ≤ c.toNat ∧ c.toNat ≤ 57 → dig c = (c.toNat : Int) - 48) ∧ (97 ≤ c.toNat ∧ c.toNat ≤ 102 → dig c = (c.toNat : Int) - 97 + 10) ∧ (¬ (48 ≤ c.toNat ∧ c.toNat ≤ 57) → ¬ (97 ≤ c.toNat ∧ c.toNat ≤ 102) → dig c = -1) := by
  have h : ∀ n : Fin 256, (48 ≤ (UInt8.ofNat n.val).toNat ∧ (UInt8.ofNat n.val).toNat ≤ 57 → dig (UInt8.ofNat n.val) = ((UInt8.ofNat n.val).toNat : Int) - 48) ∧ (97 ≤ (UInt8.ofNat n.val).toNat ∧ (UInt8.ofNat n.val).toNat ≤ 102 → dig (UInt8.ofNat n.val) = ((UInt8.ofNat n.val).toNat : Int) - 97 + 10) ∧ (¬ (48 ≤ (UInt8.ofNat n.val).toNat ∧ (UInt8.ofNat n.val).toNat ≤ 57) → ¬ (97 ≤ (UInt8.ofNat n.val).toNat ∧ (UInt8.ofNat n.val).toNat ≤ 102) → dig (UInt8.ofNat n.val) = -1) := by decide +kernel
  have := h ⟨c.toNat, c.toNat_lt⟩
  simpa using this
theorem digit_any25 (c : UInt8) (w : World) : Calls Tryz.prog 69 #[.int .u8 (c.toNat : Int)] w fun e w' => e = .returned (.int .i64 (dig c)) ∧ w' = w := by
  obtain ⟨h1, h2, h3⟩ := dig_range c
  have hc := c.toNat_lt
  obtain ⟨x, hx⟩ : ∃ x, c.toNat = x := ⟨_, rfl⟩
  obtain ⟨d, hd⟩ : ∃ d, dig c = d := ⟨_, rfl⟩
  rw [hx, hd] at h1 h2 h3
  rw [hx] at hc
  rw [hx, hd]
  clear hx hd
  by_cases a1 : 48 ≤ x
  · have e1 : decide ((x : Int) ≥ 48) = true := decide_eq_true (by omega)
    have e1' : decide (48 ≤ (x : Int)) = true := decide_eq_true (by omega)
    have e1'' : decide (48 ≤ x) = true := decide_eq_true (by omega)
    by_cases a2 : x ≤ 57
    · have H4 := Lib.hid (h1 ⟨a1, a2⟩)
      have e2 : decide ((x : Int) ≤ 57) = true := decide_eq_true (by omega)
      have e2' : decide (x ≤ 57) = true := decide_eq_true (by omega)
      have ew : IntKind.u8.wrap ((x : Int) - 48) = (x : Int) - 48 := by simp [IntKind.wrap, IntKind.bits, IntKind.signed]; omega
      clear h1 h2 h3
      go_enter Tryz.func69, Tryz.ntmps69
      go_wp2_with fail
      go_ret
      exact ⟨by rw [H4.out]; rfl, rfl⟩
    · have e2 : decide ((x : Int) ≤ 57) = false := decide_eq_false (by omega)
      have e2' : decide (x ≤ 57) = false := decide_eq_false a2
      by_cases a3 : 97 ≤ x
      · have e3 : decide ((x : Int) ≥ 97) = true := decide_eq_true (by omega)
        have e3' : decide (97 ≤ (x : Int)) = true := decide_eq_true (by omega)
        have e3'' : decide (97 ≤ x) = true := decide_eq_true (by omega)
        by_cases a4 : x ≤ 102
        · have H4 := Lib.hid (h2 ⟨a3, a4⟩)
          have e4 : decide ((x : Int) ≤ 102) = true := decide_eq_true (by omega)
          have e4' : decide (x ≤ 102) = true := decide_eq_true (by omega)
          have ew : IntKind.u8.wrap ((x : Int) - 97) = (x : Int) - 97 := by simp [IntKind.wrap, IntKind.bits, IntKind.signed]; omega
          have ew2 : IntKind.i64.wrap ((x : Int) - 97 + 10) = (x : Int) - 97 + 10 := IntWalk.i64_in _ (by omega)
          clear h1 h2 h3
          go_enter Tryz.func69, Tryz.ntmps69
          go_wp2_with fail
          go_ret
          exact ⟨by rw [H4.out]; rfl, rfl⟩
        · have H4 := Lib.hid (h3 (fun h => a2 h.2) (fun h => a4 h.2))
          have e4 : decide ((x : Int) ≤ 102) = false := decide_eq_false (by omega)
          have e4' : decide (x ≤ 102) = false := decide_eq_false a4
          clear h1 h2 h3
          go_enter Tryz.func69, Tryz.ntmps69
          go_wp2_with fail
          go_ret
          exact ⟨by rw [H4.out]; rfl, rfl⟩
      · have H4 := Lib.hid (h3 (fun h => a2 h.2) (fun h => a3 h.1))
        have e3 : decide ((x : Int) ≥ 97) = false := decide_eq_false (by omega)
        have e3' : decide (97 ≤ (x : Int)) = false := decide_eq_false (by omega)
        have e3'' : decide (97 ≤ x) = false := decide_eq_false (by omega)
        clear h1 h2 h3
        go_enter Tryz.func69, Tryz.ntmps69
        go_wp2_with fail
        go_ret
        exact ⟨by rw [H4.out]; rfl, rfl⟩
  · have H4 := Lib.hid (h3 (fun h => a1 h.1) (fun h => a1 (by omega)))
    have e1 : decide ((x : Int) ≥ 48) = false := decide_eq_false (by omega)
    have e1' : decide (48 ≤ (x : Int)) = false := decide_eq_false (by omega)
    have e1'' : decide (48 ≤ x) = false := decide_eq_false (by omega)
    have e3 : decide ((x : Int) ≥ 97) = false := decide_eq_false (by omega)
    have e3' : decide (97 ≤ (x : Int)) = false := decide_eq_false (by omega)
    have e3'' : decide (97 ≤ x) = false := decide_eq_false (by omega)
    clear h1 h2 h3
    go_enter Tryz.func69, Tryz.ntmps69
    go_wp2_with fail
    go_ret
    exact ⟨by rw [H4.out]; rfl, rfl⟩
end Go.Proofs.YtloiaaolnfimgaaGreat
